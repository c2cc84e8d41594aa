/- What the claim leans on, text Zrk: Ra25. No condition beyond what each lemma states. -/
import Derived.Test.YtocfhkmdkdjinaaDoorZd
import Derived.Test.YtocfhkmdkdjinaaDoorZt
import Derived.Test.YtocfhkmdkdjinaaDoorZrj
import Derived.Test.YtocfhkmdkdjinaaDoorZri

/- RadiusSeals returns true. Printed by wp.py. -/
namespace Go.Proofs.YtocfhkmdkdjinaaDoor
open Go Go.RowKit
set_option linter.unusedVariables false
set_option linter.unusedSimpArgs false
set_option maxRecDepth 100000
set_option maxHeartbeats 4000000
attribute [local irreducible] inR VC RG VCn sq inS lq nq jq Wk
attribute [local simp] nmL_atS atS_fr atS_nil
theorem sealO_fc (c i : Int) (au : List UInt8) (L : List (Int × List UInt8)) (sec : List UInt8) (hL : L.length ≤ 1000000) (hs : sec.length ≤ 100000) : FC Tryd.prog GO 38 [.agg [.int .i64 c, .int .i64 i, .u8 (gb au 0), .u8 (gb au 1), .u8 (gb au 2), .u8 (gb au 3), .u8 (gb au 4), .u8 (gb au 5), .u8 (gb au 6), .u8 (gb au 7), .u8 (gb au 8), .u8 (gb au 9), .u8 (gb au 10), .u8 (gb au 11), .u8 (gb au 12), .u8 (gb au 13), .u8 (gb au 14), .u8 (gb au 15), .owns 2 L.length (atO L)], .rob sec] (.tup [.ownb (slV c i (q16 au) L sec).1, .int .i64 (slV c i (q16 au) L sec).2]) none := by
  have h := seal_fc c i au L sec hL hs
  rw [← atO_frz] at h
  exact FC.frzA (pre := [.int .i64 c, .int .i64 i, .u8 (gb au 0), .u8 (gb au 1), .u8 (gb au 2), .u8 (gb au 3), .u8 (gb au 4), .u8 (gb au 5), .u8 (gb au 6), .u8 (gb au 7), .u8 (gb au 8), .u8 (gb au 9), .u8 (gb au 10), .u8 (gb au 11), .u8 (gb au 12), .u8 (gb au 13), .u8 (gb au 14), .u8 (gb au 15)]) rfl (atO_fr L) h
theorem replyO_fc (c i : Int) (au ak : List UInt8) (L : List (Int × List UInt8)) (sec : List UInt8) (hL : L.length ≤ 1000000) (hs : sec.length ≤ 100000) : FC Tryd.prog GO 20 [.agg [.int .i64 c, .int .i64 i, .u8 (gb au 0), .u8 (gb au 1), .u8 (gb au 2), .u8 (gb au 3), .u8 (gb au 4), .u8 (gb au 5), .u8 (gb au 6), .u8 (gb au 7), .u8 (gb au 8), .u8 (gb au 9), .u8 (gb au 10), .u8 (gb au 11), .u8 (gb au 12), .u8 (gb au 13), .u8 (gb au 14), .u8 (gb au 15), .owns 2 L.length (atO L)], (.aggb (q16 ak)), .rob sec] (.tup [.ownb (rpV c i (q16 ak) L sec).1, .int .i64 (rpV c i (q16 ak) L sec).2]) none := by
  have h := reply_fc c i au ak L sec hL hs
  rw [← atO_frz] at h
  exact FC.frzA (pre := [.int .i64 c, .int .i64 i, .u8 (gb au 0), .u8 (gb au 1), .u8 (gb au 2), .u8 (gb au 3), .u8 (gb au 4), .u8 (gb au 5), .u8 (gb au 6), .u8 (gb au 7), .u8 (gb au 8), .u8 (gb au 9), .u8 (gb au 10), .u8 (gb au 11), .u8 (gb au 12), .u8 (gb au 13), .u8 (gb au 14), .u8 (gb au 15)]) rfl (atO_fr L) h
theorem slV_open {c i : Int} {au : List UInt8} {L : List (Int × List UInt8)} {sec B : List UInt8} (h : slV c i (q16 au) L sec = (B, 0)) : opnP B sec = (c, i, q16 au, L, 0) := by
  by_cases hc : c = 1
  · by_cases hm : 0 ≤ idxM L
    · rw [slV_m hm] at h; simp at h
    · rw [slV_yes hc hm] at h
      rcases hw : wrO c i (L ++ [(80, z16)])
      · rw [seV_no hw] at h; simp at h
      · rw [seV_yes hw] at h
        simp only [Prod.mk.injEq, and_true] at h
        subst hc
        rw [← h]
        exact opn_seal i (q16 au) L sec (q16_len _) (by omega) hw
  · rw [slV_c hc] at h; simp at h
theorem rpV_open {c i : Int} {ak : List UInt8} {L : List (Int × List UInt8)} {sec B : List UInt8} (h : rpV c i (q16 ak) L sec = (B, 0)) : ∃ S, opdP B (q16 ak) sec = (c, i, q16 S, L, 0) := by
  by_cases hc : c = 1
  · rw [rpV_c hc] at h; simp at h
  · by_cases hm : 0 ≤ idxM L
    · rw [rpV_m hm] at h; simp at h
    · by_cases he : (seV c i (q16 ak) L sec).2 = 0
      · rw [rpV_y hc hm he] at h
        rcases hw : wrO c i (L ++ [(80, z16)])
        · rw [seV_no hw] at he; simp at he
        · rw [seV_yes hw] at h
          simp only [Prod.mk.injEq, and_true] at h
          rw [wrS_parts c i (q16 ak) _ _ (q16_len _)] at h
          refine ⟨md (wrS c i (q16 ak) (seL c i (q16 ak) L sec) ++ sec), ?_⟩
          rw [← h, q16_self (md_len _)]
          exact opd_reply c i (q16 ak) L sec _ (q16_len _) hc (by omega) hw rfl
      · rw [rpV_e hc hm he] at h
        simp only [Prod.mk.injEq] at h
        exact absurd h.2 he
theorem slV_le {c i : Int} {au : List UInt8} {L : List (Int × List UInt8)} {sec B : List UInt8} {e : Int} (h : slV c i (q16 au) L sec = (B, e)) : B.length ≤ 4096 := by
  by_cases hc : c = 1
  · by_cases hm : 0 ≤ idxM L
    · rw [slV_m hm] at h
      simp only [Prod.mk.injEq] at h
      rw [← h.1]; simp
    · rw [slV_yes hc hm] at h
      have := (seV_le c i (q16 au) sec L (q16_len _)).1
      rw [h] at this
      exact this
  · rw [slV_c hc] at h
    simp only [Prod.mk.injEq] at h
    rw [← h.1]; simp
theorem rpV_le {c i : Int} {ak : List UInt8} {L : List (Int × List UInt8)} {sec B : List UInt8} {e : Int} (h : rpV c i (q16 ak) L sec = (B, e)) : B.length ≤ 5000 := by
  by_cases hc : c = 1
  · rw [rpV_c hc] at h
    simp only [Prod.mk.injEq] at h
    rw [← h.1]; simp
  · by_cases hm : 0 ≤ idxM L
    · rw [rpV_m hm] at h
      simp only [Prod.mk.injEq] at h
      rw [← h.1]; simp
    · have := (seV_le c i (q16 ak) sec L (q16_len _)).1
      by_cases he : (seV c i (q16 ak) L sec).2 = 0
      · rw [rpV_y hc hm he] at h
        simp only [Prod.mk.injEq] at h
        rw [← h.1]
        simp only [List.length_append, md_len, List.length_take, List.length_drop]
        omega
      · rw [rpV_e hc hm he] at h
        simp only [Prod.mk.injEq] at h
        rw [← h.1]; simp
theorem attrsT_fc (L : List (Int × List UInt8)) (hL : L.length ≤ 1000000) : FC Tryd.prog GE 44 [.rof 2 L.length (fS L), .rof 2 L.length (fS L)] (.bool true) none := by
  have h := rattrs_fc L L hL
  rw [decide_eq_true rfl] at h
  exact h
theorem tmL_le (L : List (Int × List UInt8)) : (tmL L).length ≤ 20 := by rw [tmL_len]; omega
attribute [local irreducible] bodyA wrS wrO idxF idxM z16 seV slV rpV rdO rdS prs rdP prC mkN mkL wrV seL cutI opA ofP opnP opdP opdS md tmL

namespace UradiusSeals_fc
theorem U : type_of% (@drop_rep UInt8) ∧ type_of% (@drop_rep D) ∧ type_of% (@List.take_zero UInt8) ∧ type_of% (@List.take_zero D) ∧ type_of% @q16_take ∧ type_of% @q16_len ∧ type_of% @q16_fold ∧ type_of% @q16_map ∧ type_of% @decL ∧ type_of% @decI ∧ type_of% @atS_len ∧ type_of% @atR_len ∧ type_of% @atO_len ∧ type_of% @md_len ∧ type_of% @md_take ∧ type_of% @hmM_len ∧ type_of% @hmM_take := ⟨(@drop_rep UInt8), (@drop_rep D), (@List.take_zero UInt8), (@List.take_zero D), @q16_take, @q16_len, @q16_fold, @q16_map, @decL, @decI, @atS_len, @atR_len, @atO_len, @md_len, @md_take, @hmM_len, @hmM_take⟩
end UradiusSeals_fc
open UradiusSeals_fc
theorem radiusSeals_fc (c i : Int) (lp : List UInt8) (L0 : List (Int × List UInt8)) (lk ls : List UInt8) : FC Tryd.prog GO 12 [.agg [.int .i64 c, .int .i64 i, .u8 (gb lp 0), .u8 (gb lp 1), .u8 (gb lp 2), .u8 (gb lp 3), .u8 (gb lp 4), .u8 (gb lp 5), .u8 (gb lp 6), .u8 (gb lp 7), .u8 (gb lp 8), .u8 (gb lp 9), .u8 (gb lp 10), .u8 (gb lp 11), .u8 (gb lp 12), .u8 (gb lp 13), .u8 (gb lp 14), .u8 (gb lp 15), .rof 2 L0.length (fS L0)], .aggb (q16 lk), .rob ls] (.bool true) none := by
  refine fi_ 131 [6] ti_eq gpO Tryd.func12 (fun C hE hm hP hrc hrn => ?_)
  have t2 : List.take (min (ls.length : Int) 100).toNat ls = ls.take 100 := tk_min ls 100
  have n2 : (ls.take 100).length ≤ 100 := by rw [List.length_take]; omega
  have n1 := tmL_le L0
  have nb := @tmL_b L0
  have tf := tame_fc c i lp L0
  obtain ⟨L, hL⟩ : ∃ L, L = tmL L0 := ⟨_, rfl⟩
  obtain ⟨S, hS⟩ : ∃ S, S = ls.take 100 := ⟨_, rfl⟩
  rw [← hL] at n1 nb tf
  rw [← hS] at n2 t2
  obtain ⟨⟨B, e⟩, hB⟩ : ∃ B, B = slV c i (q16 lp) L S := ⟨_, rfl⟩
  obtain ⟨⟨R, f⟩, hR⟩ : ∃ R, R = rpV c i (q16 lk) L S := ⟨_, rfl⟩
  have hBl := slV_le hB.symm
  have hRl := rpV_le hR.symm
  have f1 := sealO_fc c i lp L S (by omega) (by omega)
  have f2 := rSeal_fc c i lp L S (by omega) (by omega)
  have f3 := replyO_fc c i lp lk L S (by omega) (by omega)
  have f4 := rReply_fc c i lp lk L S (by omega) (by omega)
  rw [← hB] at f1 f2
  rw [← hR] at f3 f4
  simp only at f1 f2 f3 f4
  have tof := to_fc c i lp L (by omega) (fun a ha => by have := nb a ha; omega)
  refine vs ?_
  refine R_ hE ?_
  refine sq_n ?_
  refine vs ?_
  first | refine O_ ?_ | refine OD_ hm ?_
  refine G_ 1 hE ?_
  refine rc_ hE hP (tf.any) Tryd.func29 ?_ (hm := by exact ma2_) (hnr := by exact nrt2_) (had := by exact adt2_)
  refine G_ 200 hE ?_
  first | refine rz ?_ | refine ZD_ ?_
  refine A_ ?_
  rw [t2]
  first | refine O_ ?_ | refine OD_ hm ?_
  refine G_ 1 hE ?_
  refine rc_ hE hP (tof.any) Tryd.func30 ?_ (hm := by exact ma2_) (hnr := by exact nrt2_) (had := by exact adt2_)
  refine G_ 1 hE ?_
  refine rco_ hE hP (f1) Tryd.func38 ?_ (hm := by exact ma4_)
  refine G_ 200 hE ?_
  first | refine rz ?_ | refine ZD_ ?_
  refine A_ ?_
  first | refine O_ ?_ | refine OD_ hm ?_
  refine G_ 2 hE ?_
  refine rc_ hE hP (f2.any) Tryd.func42 ?_ (hm := by exact ma2_) (hnr := by exact nrt2_) (had := by exact adt2_)
  refine G_ 200 hE ?_
  first | refine rz ?_ | refine ZD_ ?_
  refine A_ ?_
  first | refine O_ ?_ | refine OD_ hm ?_
  refine G_ 1 hE ?_
  refine rc_ hE hP (tof.any) Tryd.func30 ?_ (hm := by exact ma2_) (hnr := by exact nrt2_) (had := by exact adt2_)
  refine G_ 2 hE ?_
  refine rco_ hE hP (f3) Tryd.func20 ?_ (hm := by exact ma4_)
  refine G_ 200 hE ?_
  first | refine rz ?_ | refine ZD_ ?_
  refine A_ ?_
  first | refine O_ ?_ | refine OD_ hm ?_
  refine G_ 3 hE ?_
  refine rc_ hE hP (f4.any) Tryd.func43 ?_ (hm := by exact ma2_) (hnr := by exact nrt2_) (had := by exact adt2_)
  refine G_ 200 hE ?_
  first | refine rz ?_ | refine ZD_ ?_
  refine A_ ?_
  first | refine O_ ?_ | refine OD_ hm ?_
  refine rc_ hE hP (speaks_fc) Tryd.func33 ?_
  refine G_ 2 hE ?_
  refine GT_ hE (rfl) ?_
  refine GT_ hE (rfl) ?_
  refine GT_ hE (rfl) ?_
  refine GT_ hE (rfl) ?_
  refine G_ 2 hE ?_
  refine GT_ hE (rfl) ?_
  refine GT_ hE (rfl) ?_
  refine GT_ hE (rfl) ?_
  refine G_ 2 hE ?_
  refine GT_ hE (rfl) ?_
  refine GT_ hE (rfl) ?_
  refine GT_ hE (rfl) ?_
  refine GT_ hE (rfl) ?_
  refine G_ 2 hE ?_
  refine GT_ hE (rfl) ?_
  refine GT_ hE (rfl) ?_
  refine GT_ hE (rfl) ?_
  refine G_ 200 hE ?_
  first | refine rz ?_ | refine ZD_ ?_
  refine A_ ?_
  by_cases he : e = 0
  · subst he
    have f5 := open2_fc B S c i lp L 0 (by omega) (by omega) (slV_open hB.symm)
    refine A_ ?_
    refine wv_ (sgb_ 8 33) ?_
    first | refine O_ ?_ | refine OD_ hm ?_
    refine G_ 2 hE ?_
    refine rc_ hE hP (f5) Tryd.func39 ?_ (hm := by exact ma2_) (hnr := by exact nrt2_) (had := by exact adt2_)
    refine G_ 200 hE ?_
    first | refine rz ?_ | refine ZD_ ?_
    refine A_ ?_
    first | refine O_ ?_ | refine OD_ hm ?_
    refine G_ 3 hE ?_
    refine GT_ hE (rfl) ?_
    refine rct_ hE hP ((from_fc c i lp L (by omega)).any) Tryd.func35 (rfl) ?_ (hm := by exact ma2_) (hnr := by exact nrt2_) (had := by exact adt2_)
    refine GT_ hE (rfl) ?_
    refine rct_ hE hP ((sameT_fc c i lp L (by omega)).any) Tryd.func34 (rfl) ?_ (hm := by exact ma2_) (hnr := by exact nrt2_) (had := by exact adt2_)
    refine GT_ hE (rfl) ?_
    refine G_ 200 hE ?_
    first | refine rz ?_ | refine ZD_ ?_
    refine A_ ?_
    by_cases hf : f = 0
    · subst hf
      obtain ⟨S2, ho2⟩ := rpV_open hR.symm
      have f6 := opened_fc R lk S c i S2 L 0 (by omega) (by omega) ho2
      refine A_ ?_
      refine wv_ (sgb_ 12 47) ?_
      first | refine O_ ?_ | refine OD_ hm ?_
      refine G_ 3 hE ?_
      refine rc_ hE hP (f6) Tryd.func21 ?_ (hm := by exact ma2_) (hnr := by exact nrt2_) (had := by exact adt2_)
      refine G_ 200 hE ?_
      first | refine rz ?_ | refine ZD_ ?_
      refine A_ ?_
      first | refine O_ ?_ | refine OD_ hm ?_
      refine G_ 3 hE ?_
      refine GT_ hE (rfl) ?_
      refine GT_ hE (rfl) ?_
      refine GT_ hE (rfl) ?_
      refine GT_ hE (rfl) ?_
      refine GT_ hE (rfl) ?_
      refine G_ 2 hE ?_
      refine GT_ hE (rfl) ?_
      refine GT_ hE (rfl) ?_
      refine GT_ hE (rfl) ?_
      refine GT_ hE (rfl) ?_
      refine GT_ hE (rfl) ?_
      refine G_ 2 hE ?_
      refine GT_ hE (rfl) ?_
      refine GT_ hE (rfl) ?_
      refine rct_ hE hP ((told_fc L (by omega)).any) Tryd.func45 (rfl) ?_ (hm := by exact ma2_) (hnr := by exact nrt2_) (had := by exact adt2_)
      refine GT_ hE (rfl) ?_
      refine GT_ hE (rfl) ?_
      refine rct_ hE hP ((attrsT_fc L (by omega)).any) Tryd.func44 (rfl) ?_ (hm := by exact ma2_) (hnr := by exact nrt2_) (had := by exact adt2_)
      refine G_ 200 hE ?_
      first | refine rz ?_ | refine ZD_ ?_
      refine A_ ?_
      exact ret_
    · refine A_ ?_
      refine C_ hE (fun hcf => ?_) (fun hcf => ?_) <;> (try (exfalso; omega))
      refine A_ ?_
      exact ret_
  · refine A_ ?_
    refine C_ hE (fun hcc => ?_) (fun hcc => ?_) <;> (try (exfalso; omega))
    refine A_ ?_
    by_cases hf : f = 0
    · subst hf
      obtain ⟨S2, ho2⟩ := rpV_open hR.symm
      have f6 := opened_fc R lk S c i S2 L 0 (by omega) (by omega) ho2
      refine A_ ?_
      refine wv_ (sgb_ 12 47) ?_
      first | refine O_ ?_ | refine OD_ hm ?_
      refine G_ 3 hE ?_
      refine rc_ hE hP (f6) Tryd.func21 ?_ (hm := by exact ma2_) (hnr := by exact nrt2_) (had := by exact adt2_)
      refine G_ 200 hE ?_
      first | refine rz ?_ | refine ZD_ ?_
      refine A_ ?_
      first | refine O_ ?_ | refine OD_ hm ?_
      refine G_ 3 hE ?_
      refine GT_ hE (rfl) ?_
      refine GT_ hE (rfl) ?_
      refine GT_ hE (rfl) ?_
      refine GT_ hE (rfl) ?_
      refine GT_ hE (rfl) ?_
      refine G_ 2 hE ?_
      refine GT_ hE (rfl) ?_
      refine GT_ hE (rfl) ?_
      refine GT_ hE (rfl) ?_
      refine GT_ hE (rfl) ?_
      refine GT_ hE (rfl) ?_
      refine G_ 2 hE ?_
      refine GT_ hE (rfl) ?_
      refine GT_ hE (rfl) ?_
      refine rct_ hE hP ((told_fc L (by omega)).any) Tryd.func45 (rfl) ?_ (hm := by exact ma2_) (hnr := by exact nrt2_) (had := by exact adt2_)
      refine GT_ hE (rfl) ?_
      refine GT_ hE (rfl) ?_
      refine rct_ hE hP ((attrsT_fc L (by omega)).any) Tryd.func44 (rfl) ?_ (hm := by exact ma2_) (hnr := by exact nrt2_) (had := by exact adt2_)
      refine G_ 200 hE ?_
      first | refine rz ?_ | refine ZD_ ?_
      refine A_ ?_
      exact ret_
    · refine A_ ?_
      refine C_ hE (fun hcf => ?_) (fun hcf => ?_) <;> (try (exfalso; omega))
      refine A_ ?_
      exact ret_
end Go.Proofs.YtocfhkmdkdjinaaDoor
