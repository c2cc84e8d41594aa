/- What the claim leans on, text Zrj: Ra24. No condition beyond what each lemma states. -/
import Derived.Test.YtocfhkmdkdjinaaDoorZd
import Derived.Test.YtocfhkmdkdjinaaDoorZt
import Derived.Test.YtocfhkmdkdjinaaDoorZrh
import Derived.Test.YtocfhkmdkdjinaaDoorZri

/- RadiusOpens returns true. Printed by wp.py. -/
namespace Go.Proofs.YtocfhkmdkdjinaaDoor
open Go Go.RowKit
set_option linter.unusedVariables false
set_option linter.unusedSimpArgs false
set_option maxRecDepth 100000
set_option maxHeartbeats 4000000
attribute [local irreducible] inR VC RG VCn sq inS lq nq jq Wk
attribute [local simp] nmL_atS atS_fr atS_nil
theorem tk_min (v : List UInt8) (n : Nat) : List.take (min (v.length : Int) (n : Int)).toNat v = v.take n := by
  rcases Nat.lt_or_ge n v.length with h | h
  · rw [show (min (v.length : Int) (n : Int)).toNat = n by omega]
  · rw [List.take_of_length_le (by omega), List.take_of_length_le h]
theorem opnP_ex (l sec : List UInt8) : ∃ c i au L e, opnP l sec = (c, i, q16 au, L, e) ∧ L.length ≤ l.length := by
  obtain ⟨c, i, au, L, e, h, hL⟩ := ofP_ex l true
  by_cases he : e = 0
  · subst he
    obtain ⟨c2, i2, au2, L2, e2, h2⟩ := opA_ex c i au L sec
    refine ⟨c2, i2, au2, L2, e2, (opnP_y h).trans h2, ?_⟩
    unfold opA at h2
    split at h2
    · split at h2
      · split at h2
        · simp only [Prod.mk.injEq] at h2
          rw [← h2.2.2.2.1]
          unfold cutI
          simp only [List.length_append, List.length_take, List.length_drop]
          omega
        · simp only [Prod.mk.injEq] at h2
          rw [← h2.2.2.2.1]; simp
      · simp only [Prod.mk.injEq] at h2
        rw [← h2.2.2.2.1]; simp
    · simp only [Prod.mk.injEq] at h2
      rw [← h2.2.2.2.1]; simp
  · exact ⟨0, 0, z16, [], e, opnP_n h he, by simp⟩
theorem opA_le {c i : Int} {au : List UInt8} {L : List (Int × List UInt8)} {sec : List UInt8} {c2 i2 : Int} {au2 : List UInt8} {L2 : List (Int × List UInt8)} {e2 : Int} (h2 : opA c i au L sec = (c2, i2, au2, L2, e2)) : L2.length ≤ L.length := by
  unfold opA at h2
  split at h2
  · split at h2
    · split at h2
      · simp only [Prod.mk.injEq] at h2
        rw [← h2.2.2.2.1]
        unfold cutI
        simp only [List.length_append, List.length_take, List.length_drop]
        omega
      · simp only [Prod.mk.injEq] at h2
        rw [← h2.2.2.2.1]; simp
    · simp only [Prod.mk.injEq] at h2
      rw [← h2.2.2.2.1]; simp
  · simp only [Prod.mk.injEq] at h2
    rw [← h2.2.2.2.1]; simp
theorem opdP_ex (l ak sec : List UInt8) : ∃ c i au L e, opdP l (q16 ak) sec = (c, i, q16 au, L, e) ∧ L.length ≤ l.length := by
  obtain ⟨c, i, au, L, e, h, hL⟩ := ofP_ex l false
  by_cases he : e = 0
  · subst he
    by_cases hm : opdS l (q16 ak) sec = q16 au
    · obtain ⟨c2, i2, au2, L2, e2, h2⟩ := opA_ex c i ak L sec
      by_cases he2 : e2 = 0
      · subst he2
        exact ⟨c2, i2, au, L2, 0, opdP_y h hm h2, Nat.le_trans (opA_le h2) hL⟩
      · exact ⟨0, 0, z16, [], e2, opdP_e h hm h2 he2, by simp⟩
    · exact ⟨0, 0, z16, [], 5, opdP_m h hm, by simp⟩
  · exact ⟨0, 0, z16, [], e, opdP_n h he, by simp⟩
theorem sameT_fc (c i : Int) (au : List UInt8) (L : List (Int × List UInt8)) (hL : L.length ≤ 1000000) : FC Tryd.prog GE 34 [.agg [.int .i64 c, .int .i64 i, .u8 (gb au 0), .u8 (gb au 1), .u8 (gb au 2), .u8 (gb au 3), .u8 (gb au 4), .u8 (gb au 5), .u8 (gb au 6), .u8 (gb au 7), .u8 (gb au 8), .u8 (gb au 9), .u8 (gb au 10), .u8 (gb au 11), .u8 (gb au 12), .u8 (gb au 13), .u8 (gb au 14), .u8 (gb au 15), .rof 2 L.length (fS L)], .agg [.int .i64 c, .int .i64 i, .u8 (gb au 0), .u8 (gb au 1), .u8 (gb au 2), .u8 (gb au 3), .u8 (gb au 4), .u8 (gb au 5), .u8 (gb au 6), .u8 (gb au 7), .u8 (gb au 8), .u8 (gb au 9), .u8 (gb au 10), .u8 (gb au 11), .u8 (gb au 12), .u8 (gb au 13), .u8 (gb au 14), .u8 (gb au 15), .rof 2 L.length (fS L)]] (.bool true) none := by
  have h := rsame_fc c i c i au au L L hL
  rw [decide_eq_true ⟨rfl, rfl, rfl, rfl⟩] at h
  exact h
attribute [local irreducible] bodyA wrS wrO idxF idxM z16 seV slV rpV rdO rdS prs rdP prC mkN mkL wrV seL cutI opA ofP opnP opdP opdS md

namespace UradiusOpens_fc
theorem U : type_of% (@drop_rep UInt8) ∧ type_of% (@drop_rep D) ∧ type_of% (@List.take_zero UInt8) ∧ type_of% (@List.take_zero D) ∧ type_of% @q16_take ∧ type_of% @q16_len ∧ type_of% @q16_fold ∧ type_of% @q16_map ∧ type_of% @decL ∧ type_of% @decI ∧ type_of% @atS_len ∧ type_of% @atR_len ∧ type_of% @atO_len ∧ type_of% @md_len ∧ type_of% @md_take ∧ type_of% @hmM_len ∧ type_of% @hmM_take := ⟨(@drop_rep UInt8), (@drop_rep D), (@List.take_zero UInt8), (@List.take_zero D), @q16_take, @q16_len, @q16_fold, @q16_map, @decL, @decI, @atS_len, @atR_len, @atO_len, @md_len, @md_take, @hmM_len, @hmM_take⟩
end UradiusOpens_fc
open UradiusOpens_fc
theorem radiusOpens_fc (lb lk ls : List UInt8) : FC Tryd.prog GO 11 [.rob lb, .aggb (q16 lk), .rob ls] (.bool true) none := by
  refine fi_ 78 [6] ti_eq gpO Tryd.func11 (fun C hE hm hP hrc hrn => ?_)
  have t1 : List.take (min (lb.length : Int) 4200).toNat lb = lb.take 4200 := tk_min lb 4200
  have t2 : List.take (min (ls.length : Int) 100).toNat ls = ls.take 100 := tk_min ls 100
  have n1 : (lb.take 4200).length ≤ 4200 := by rw [List.length_take]; omega
  have n2 : (ls.take 100).length ≤ 100 := by rw [List.length_take]; omega
  refine vs ?_
  refine R_ hE ?_
  refine sq_n ?_
  refine vs ?_
  first | refine O_ ?_ | refine OD_ hm ?_
  refine G_ 200 hE ?_
  first | refine rz ?_ | refine ZD_ ?_
  obtain ⟨B, hB⟩ : ∃ B, B = lb.take 4200 := ⟨_, rfl⟩
  obtain ⟨S, hS⟩ : ∃ S, S = ls.take 100 := ⟨_, rfl⟩
  rw [← hB] at n1 t1
  rw [← hS] at n2 t2
  rw [t1, t2]
  obtain ⟨c, i, au, L, e, ho, hLl⟩ := opnP_ex B S
  obtain ⟨c2, i2, au2, L2, e2, ho2, hLl2⟩ := opdP_ex B lk S
  have f1 := open2_fc B S c i au L e (by omega) (by omega) ho
  have f2 := ropen2_fc B S c i au L e (by omega) (by omega) ho
  have f3 := opened_fc B lk S c2 i2 au2 L2 e2 (by omega) (by omega) ho2
  have f4 := ropened_fc B lk S c2 i2 au2 L2 e2 (by omega) (by omega) ho2
  refine A_ ?_
  first | refine O_ ?_ | refine OD_ hm ?_
  refine G_ 2 hE ?_
  refine rc_ hE hP (f1) Tryd.func39 ?_ (hm := by exact ma2_) (hnr := by exact nrt2_) (had := by exact adt2_)
  refine G_ 200 hE ?_
  first | refine rz ?_ | refine ZD_ ?_
  refine A_ ?_
  first | refine O_ ?_ | refine OD_ hm ?_
  refine G_ 4 hE ?_
  refine rc_ hE hP (f2.any) Tryd.func40 ?_ (hm := by exact ma2_) (hnr := by exact nrt2_) (had := by exact adt2_)
  refine G_ 200 hE ?_
  first | refine rz ?_ | refine ZD_ ?_
  refine A_ ?_
  first | refine O_ ?_ | refine OD_ hm ?_
  refine G_ 3 hE ?_
  refine rc_ hE hP (f3) Tryd.func21 ?_ (hm := by exact ma2_) (hnr := by exact nrt2_) (had := by exact adt2_)
  refine G_ 200 hE ?_
  first | refine rz ?_ | refine ZD_ ?_
  refine A_ ?_
  first | refine O_ ?_ | refine OD_ hm ?_
  refine G_ 5 hE ?_
  refine rc_ hE hP (f4.any) Tryd.func41 ?_ (hm := by exact ma2_) (hnr := by exact nrt2_) (had := by exact adt2_)
  refine G_ 200 hE ?_
  first | refine rz ?_ | refine ZD_ ?_
  refine A_ ?_
  first | refine O_ ?_ | refine OD_ hm ?_
  refine rc_ hE hP (speaks_fc) Tryd.func33 ?_
  refine G_ 1 hE ?_
  refine GT_ hE (rfl) ?_
  refine GT_ hE (rfl) ?_
  refine GT_ hE (rfl) ?_
  refine G_ 2 hE ?_
  refine GT_ hE (rfl) ?_
  refine rct_ hE hP ((from_fc c i au L (by omega)).any) Tryd.func35 (rfl) ?_ (hm := by exact ma2_) (hnr := by exact nrt2_) (had := by exact adt2_)
  refine GT_ hE (rfl) ?_
  refine rct_ hE hP ((sameT_fc c i au L (by omega)).any) Tryd.func34 (rfl) ?_ (hm := by exact ma2_) (hnr := by exact nrt2_) (had := by exact adt2_)
  refine G_ 2 hE ?_
  refine GT_ hE (rfl) ?_
  refine GT_ hE (rfl) ?_
  refine GT_ hE (rfl) ?_
  refine G_ 2 hE ?_
  refine GT_ hE (rfl) ?_
  refine rct_ hE hP ((from_fc c2 i2 au2 L2 (by omega)).any) Tryd.func35 (rfl) ?_ (hm := by exact ma2_) (hnr := by exact nrt2_) (had := by exact adt2_)
  refine GT_ hE (rfl) ?_
  refine rct_ hE hP ((sameT_fc c2 i2 au2 L2 (by omega)).any) Tryd.func34 (rfl) ?_ (hm := by exact ma2_) (hnr := by exact nrt2_) (had := by exact adt2_)
  refine G_ 200 hE ?_
  first | refine rz ?_ | refine ZD_ ?_
  refine A_ ?_
  exact ret_
end Go.Proofs.YtocfhkmdkdjinaaDoor
