/- What the claim leans on, text Zrl: Ra26. No condition beyond what each lemma states. -/
import Derived.Test.YtocfhkmdkdjinaaDoorZd
import Derived.Test.YtocfhkmdkdjinaaDoorZt
import Derived.Test.YtocfhkmdkdjinaaDoorZrk

/- RadiusWrites returns true. Printed by wp.py. -/
namespace Go.Proofs.YtocfhkmdkdjinaaDoor
open Go Go.RowKit
set_option linter.unusedVariables false
set_option linter.unusedSimpArgs false
set_option maxRecDepth 100000
set_option maxHeartbeats 4000000
attribute [local irreducible] inR VC RG VCn sq inS lq nq jq Wk
attribute [local simp] nmL_atS atS_fr atS_nil
theorem nmL_atR : ∀ L : List (Int × List UInt8), nmL (atR L) = []
  | [] => rfl
  | a :: L => by
    show nmL ([D.int .i64 a.1, D.rob a.2] ++ atR L) = []
    rw [nmL_append, nmL_atR L]
    rfl
attribute [local simp] nmL_atR
theorem wrV_le (c i : Int) (au : List UInt8) (L : List (Int × List UInt8)) (ha : au.length = 16) : (wrV c i au L).1.length ≤ 4096 := by
  rcases hw : wrO c i L
  · rw [wrV_no hw]; simp
  · rw [wrV_yes hw]; exact wrS_le au ha hw
attribute [local irreducible] bodyA wrS wrO idxF idxM z16 seV slV rpV rdO rdS prs rdP prC mkN mkL wrV seL cutI opA ofP opnP opdP opdS md tmL

namespace UradiusWrites_fc
theorem U : type_of% (@drop_rep UInt8) ∧ type_of% (@drop_rep D) ∧ type_of% (@List.take_zero UInt8) ∧ type_of% (@List.take_zero D) ∧ type_of% @q16_take ∧ type_of% @q16_len ∧ type_of% @q16_fold ∧ type_of% @q16_map ∧ type_of% @decL ∧ type_of% @decI ∧ type_of% @atS_len ∧ type_of% @atR_len ∧ type_of% @atO_len ∧ type_of% @md_len ∧ type_of% @md_take ∧ type_of% @hmM_len ∧ type_of% @hmM_take := ⟨(@drop_rep UInt8), (@drop_rep D), (@List.take_zero UInt8), (@List.take_zero D), @q16_take, @q16_len, @q16_fold, @q16_map, @decL, @decI, @atS_len, @atR_len, @atO_len, @md_len, @md_take, @hmM_len, @hmM_take⟩
end UradiusWrites_fc
open UradiusWrites_fc
theorem radiusWrites_fc (c i : Int) (lp : List UInt8) (L0 : List (Int × List UInt8)) (lb : List UInt8) : FC Tryd.prog GO 9 [.agg [.int .i64 c, .int .i64 i, .u8 (gb lp 0), .u8 (gb lp 1), .u8 (gb lp 2), .u8 (gb lp 3), .u8 (gb lp 4), .u8 (gb lp 5), .u8 (gb lp 6), .u8 (gb lp 7), .u8 (gb lp 8), .u8 (gb lp 9), .u8 (gb lp 10), .u8 (gb lp 11), .u8 (gb lp 12), .u8 (gb lp 13), .u8 (gb lp 14), .u8 (gb lp 15), .rof 2 L0.length (fS L0)], .rob lb] (.bool true) none := by
  refine fi_ 115 [4] ti_eq gpO Tryd.func9 (fun C hE hm hP hrc hrn => ?_)
  have t2 : List.take (min (lb.length : Int) 4200).toNat lb = lb.take 4200 := tk_min lb 4200
  have n2 : (lb.take 4200).length ≤ 4200 := by rw [List.length_take]; omega
  have n1 := tmL_le L0
  have nb := @tmL_b L0
  have tf := tame_fc c i lp L0
  obtain ⟨L, hL⟩ : ∃ L, L = tmL L0 := ⟨_, rfl⟩
  obtain ⟨B, hB⟩ : ∃ B, B = lb.take 4200 := ⟨_, rfl⟩
  have t3 : min (min (lb.length : Int) 4200).toNat lb.length = B.length := by rw [hB, List.length_take]; omega
  rw [← hL] at n1 nb tf
  rw [← hB] at n2 t2
  have wf := write_fc c i lp L
  have rwf := rwrite_fc c i lp L (by omega)
  have hXl := wrV_le c i (q16 lp) L (q16_len lp)
  have hXe : (wrV c i (q16 lp) L).1.length = 0 ∨ rdP (wrV c i (q16 lp) L).1 = (c, i, q16 lp, L, 0) := by
    rcases hw : wrO c i L
    · rw [wrV_no hw]; exact .inl rfl
    · rw [wrV_yes hw]; exact .inr (rdP_wr c i (q16 lp) L (q16_len lp) hw)
  obtain ⟨⟨X, e⟩, hX⟩ : ∃ X, X = wrV c i (q16 lp) L := ⟨_, rfl⟩
  rw [← hX] at wf rwf hXl hXe
  simp only at wf rwf hXl hXe
  obtain ⟨c2, i2, au2, M, e2, hr, hMl⟩ := rdP_all B
  have tof := to_fc c i lp L (by omega) (fun a ha => by have := nb a ha; omega)
  refine vs ?_
  refine R_ hE ?_
  refine sq_n ?_
  refine vs ?_
  first | refine O_ ?_ | refine OD_ hm ?_
  refine G_ 1 hE ?_
  refine rc_ hE hP (tf.any) Tryd.func29 ?_ (hm := by exact ma2_) (hnr := by exact nrt2_) (had := by exact adt2_)
  refine G_ 200 hE ?_
  first | refine rz ?_ | refine ZD_ ?_
  refine A_ ?_
  rw [t2, t3]
  first | refine O_ ?_ | refine OD_ hm ?_
  refine G_ 1 hE ?_
  refine rc_ hE hP (tof.any) Tryd.func30 ?_ (hm := by exact ma2_) (hnr := by exact nrt2_) (had := by exact adt2_)
  refine G_ 200 hE ?_
  first | refine rz ?_ | refine ZD_ ?_
  refine sq_n ?_
  refine VC.weak ?_ (kfreeze 18524 (by exact rfl) (by exact atO_fr L) (by exact atO_frz L))
  refine A_ ?_
  first | refine O_ ?_ | refine OD_ hm ?_
  refine G_ 1 hE ?_
  refine rc_ hE hP (wf.any) Tryd.func31 ?_ (hm := by exact ma2_) (hnr := by exact nrt2_) (had := by exact adt2_)
  refine G_ 200 hE ?_
  first | refine rz ?_ | refine ZD_ ?_
  refine A_ ?_
  first | refine O_ ?_ | refine OD_ hm ?_
  refine G_ 1 hE ?_
  refine rc_ hE hP (rwf.any) Tryd.func32 ?_ (hm := by exact ma2_) (hnr := by exact nrt2_) (had := by exact adt2_)
  refine G_ 200 hE ?_
  first | refine rz ?_ | refine ZD_ ?_
  refine A_ ?_
  first | refine O_ ?_ | refine OD_ hm ?_
  refine rc_ hE hP (speaks_fc) Tryd.func33 ?_
  refine G_ 2 hE ?_
  refine GT_ hE (rfl) ?_
  refine GT_ hE (rfl) ?_
  refine GT_ hE (rfl) ?_
  refine GT_ hE (rfl) ?_
  refine G_ 2 hE ?_
  refine GT_ hE (rfl) ?_
  refine GT_ hE (rfl) ?_
  refine GT_ hE (rfl) ?_
  refine G_ 2 hE ?_
  refine GT_ hE (rfl) ?_
  refine rct_ hE hP ((from_fc c i lp L (by omega)).any) Tryd.func35 (rfl) ?_ (hm := by exact ma2_) (hnr := by exact nrt2_) (had := by exact adt2_)
  refine GT_ hE (rfl) ?_
  refine rct_ hE hP ((sameT_fc c i lp L (by omega)).any) Tryd.func34 (rfl) ?_ (hm := by exact ma2_) (hnr := by exact nrt2_) (had := by exact adt2_)
  refine GT_ hE (rfl) ?_
  refine G_ 200 hE ?_
  first | refine rz ?_ | refine ZD_ ?_
  refine A_ ?_
  first | refine O_ ?_ | refine OD_ hm ?_
  refine G_ 1 hE ?_
  refine rc_ hE hP ((read_fc B c2 i2 au2 M e2 hr).any) Tryd.func36 ?_ (hm := by exact ma2_) (hnr := by exact nrt2_) (had := by exact adt2_)
  refine G_ 200 hE ?_
  first | refine rz ?_ | refine ZD_ ?_
  refine sq_n ?_
  refine VC.weak ?_ (kfreeze 18557 (by exact rfl) (by exact atO_fr M) (by exact atO_frz M))
  refine A_ ?_
  first | refine O_ ?_ | refine OD_ hm ?_
  refine G_ 2 hE ?_
  refine rc_ hE hP ((rread_fc B c2 i2 au2 M e2 hr).any) Tryd.func37 ?_ (hm := by exact ma2_) (hnr := by exact nrt2_) (had := by exact adt2_)
  refine G_ 200 hE ?_
  first | refine rz ?_ | refine ZD_ ?_
  refine A_ ?_
  first | refine O_ ?_ | refine OD_ hm ?_
  refine G_ 4 hE ?_
  refine GT_ hE (rfl) ?_
  refine rct_ hE hP ((from_fc c2 i2 au2 M (by omega)).any) Tryd.func35 (rfl) ?_ (hm := by exact ma2_) (hnr := by exact nrt2_) (had := by exact adt2_)
  refine GT_ hE (rfl) ?_
  refine rct_ hE hP ((sameT_fc c2 i2 au2 M (by omega)).any) Tryd.func34 (rfl) ?_ (hm := by exact ma2_) (hnr := by exact nrt2_) (had := by exact adt2_)
  refine GT_ hE (rfl) ?_
  refine G_ 200 hE ?_
  first | refine rz ?_ | refine ZD_ ?_
  refine A_ ?_
  refine vl (fun a : Nat × List UInt8 => ⟨[(1, .sl 16 2 0 B.length), (2, .ptr 2 1 0), (4, .bool false), (6, .sl 27 1 0 X.length), (10, .ptr 10 1 0), (11, .ptr 11 1 0), (12, .int .i64 a.1)], [(16, ⟨⟨2, 1, B.length⟩, some (.bytes a.2)⟩), (2, ⟨⟨1, 1, 19⟩, some (.cells [.int .i64 c, .int .i64 i, .u8 (gb lp 0), .u8 (gb lp 1), .u8 (gb lp 2), .u8 (gb lp 3), .u8 (gb lp 4), .u8 (gb lp 5), .u8 (gb lp 6), .u8 (gb lp 7), .u8 (gb lp 8), .u8 (gb lp 9), .u8 (gb lp 10), .u8 (gb lp 11), .u8 (gb lp 12), .u8 (gb lp 13), .u8 (gb lp 14), .u8 (gb lp 15), .sl 18515 1 0 L.length])⟩), (18515, ⟨⟨1, 2, L.length * 2⟩, some (.cells (atS L))⟩), (27, ⟨⟨1, 1, X.length⟩, some (.bytes X)⟩), (10, ⟨⟨1, 1, 19⟩, some (.cells [.int .i64 c2, .int .i64 i2, .u8 (gb au2 0), .u8 (gb au2 1), .u8 (gb au2 2), .u8 (gb au2 3), .u8 (gb au2 4), .u8 (gb au2 5), .u8 (gb au2 6), .u8 (gb au2 7), .u8 (gb au2 8), .u8 (gb au2 9), .u8 (gb au2 10), .u8 (gb au2 11), .u8 (gb au2 12), .u8 (gb au2 13), .u8 (gb au2 14), .u8 (gb au2 15), .sl 18557 1 0 M.length])⟩), (18557, ⟨⟨1, 2, M.length * 2⟩, some (.cells (atR M))⟩), (11, ⟨⟨1, 1, 19⟩, some (.cells [.int .i64 c2, .int .i64 i2, .u8 (gb au2 0), .u8 (gb au2 1), .u8 (gb au2 2), .u8 (gb au2 3), .u8 (gb au2 4), .u8 (gb au2 5), .u8 (gb au2 6), .u8 (gb au2 7), .u8 (gb au2 8), .u8 (gb au2 9), .u8 (gb au2 10), .u8 (gb au2 11), .u8 (gb au2 12), .u8 (gb au2 13), .u8 (gb au2 14), .u8 (gb au2 15), .sl 18563 1 0 M.length])⟩), (18563, ⟨⟨1, 2, M.length * 2⟩, some (.cells (atS M))⟩)], []⟩) (fun a => a.1 ≤ B.length ∧ a.2.length = B.length) (fun a => B.length - a.1) (0, B) ?_ ⟨Nat.zero_le _, rfl⟩ ?_
  · exact wk_ hrc
  rintro ⟨k, Y⟩ ⟨hk, hYl⟩
  simp only at hk hYl ⊢
  by_cases hkl : k < B.length
  · refine A_ ?_
    refine C_ hE (fun hc2 => ?_) (fun hc2 => ?_) <;> (try (exfalso; omega))
    refine A_ ?_
    refine lq_n (k + 1, Y.set k (gb Y k ^^^ 33)) ?_ ⟨by simp only; omega, by simp only [List.length_set]; exact hYl⟩ (by simp only; omega)
    exact wk_ hrc
  · refine A_ ?_
    refine C_ hE (fun hc2 => ?_) (fun hc2 => ?_) <;> (try (exfalso; omega))
    refine A_ ?_
    first | refine O_ ?_ | refine OD_ hm ?_
    refine G_ 1 hE ?_
    refine rc_ hE hP ((from_fc c2 i2 au2 M (by omega)).any) Tryd.func35 ?_ (hm := by exact ma2_) (hnr := by exact nrt2_) (had := by exact adt2_)
    refine G_ 1 hE ?_
    refine rc_ hE hP ((sameT_fc c2 i2 au2 M (by omega)).any) Tryd.func34 ?_ (hm := by exact ma2_) (hnr := by exact nrt2_) (had := by exact adt2_)
    refine G_ 2 hE ?_
    refine GT_ hE (rfl) ?_
    refine GT_ hE (rfl) ?_
    refine GT_ hE (rfl) ?_
    rcases hXe with hX0 | hXe
    · rw [decide_eq_true (show (X.length : Int) = 0 by omega)]
      refine G_ 200 hE ?_
      first | refine rz ?_ | refine ZD_ ?_
      refine A_ ?_
      first | refine O_ ?_ | refine OD_ hm ?_
      refine G_ 1 hE ?_
      refine rc_ hE hP ((from_fc c2 i2 au2 M (by omega)).any) Tryd.func35 ?_ (hm := by exact ma2_) (hnr := by exact nrt2_) (had := by exact adt2_)
      refine G_ 1 hE ?_
      refine rc_ hE hP ((sameT_fc c2 i2 au2 M (by omega)).any) Tryd.func34 ?_ (hm := by exact ma2_) (hnr := by exact nrt2_) (had := by exact adt2_)
      refine G_ 200 hE ?_
      first | refine rz ?_ | refine ZD_ ?_
      refine A_ ?_
      exact ret_
    · have hXp : ¬ (X.length : Int) = 0 := by have := (rdP_au hXe).2.1; omega
      rw [decide_eq_false hXp]
      refine G_ 200 hE ?_
      first | refine rz ?_ | refine ZD_ ?_
      refine A_ ?_
      first | refine O_ ?_ | refine OD_ hm ?_
      refine G_ 1 hE ?_
      refine rc_ hE hP ((read_fc X c i lp L 0 hXe).any) Tryd.func36 ?_ (hm := by exact ma2_) (hnr := by exact nrt2_) (had := by exact adt2_)
      refine G_ 200 hE ?_
      first | refine rz ?_ | refine ZD_ ?_
      refine sq_n ?_
      refine VC.weak ?_ (kfreeze 18604 (by exact rfl) (by exact atO_fr L) (by exact atO_frz L))
      refine A_ ?_
      first | refine O_ ?_ | refine OD_ hm ?_
      refine G_ 3 hE ?_
      refine GT_ hE (rfl) ?_
      refine rct_ hE hP ((from_fc c i lp L (by omega)).any) Tryd.func35 (rfl) ?_ (hm := by exact ma2_) (hnr := by exact nrt2_) (had := by exact adt2_)
      refine GT_ hE (rfl) ?_
      refine rct_ hE hP ((sameT_fc c i lp L (by omega)).any) Tryd.func34 (rfl) ?_ (hm := by exact ma2_) (hnr := by exact nrt2_) (had := by exact adt2_)
      refine G_ 200 hE ?_
      first | refine rz ?_ | refine ZD_ ?_
      refine A_ ?_
      exact ret_
end Go.Proofs.YtocfhkmdkdjinaaDoor
