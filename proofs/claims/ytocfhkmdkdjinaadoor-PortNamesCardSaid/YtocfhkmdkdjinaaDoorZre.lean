/- What the claim leans on, text Zre: Ra7, Ra8, Ra9, Ra10. No condition beyond what each lemma states. -/
import Derived.Test.YtocfhkmdkdjinaaDoorZd
import Derived.Test.YtocfhkmdkdjinaaDoorZt
import Derived.Test.YtocfhkmdkdjinaaDoorZrc
import Derived.Test.YtocfhkmdkdjinaaDoorZrd
import Derived.Test.YtocfhkmdkdjinaaDoorZra

/- radius: open. Printed by wp.py. -/
namespace Go.Proofs.YtocfhkmdkdjinaaDoor
open Go Go.RowKit
set_option linter.unusedVariables false
set_option linter.unusedSimpArgs false
set_option maxRecDepth 100000
set_option maxHeartbeats 4000000
attribute [local irreducible] inR VC RG VCn sq inS lq nq jq Wk
attribute [local simp] nmL_atO
/-- The first Mark's place and value; the list with noughts there. -/
def mkV (L : List (Int × List UInt8)) : List UInt8 := (L.getD (idxM L).toNat (0, [])).2
def mkZ (L : List (Int × List UInt8)) : List (Int × List UInt8) := L.set (idxM L).toNat ((L.getD (idxM L).toNat (0, [])).1, z16)
/-- A packet without its Mark, if that is right. -/
def opA (c i : Int) (au : List UInt8) (L : List (Int × List UInt8)) (sec : List UInt8) : Int × Int × List UInt8 × List (Int × List UInt8) × Int :=
  if 0 ≤ idxM L ∧ (mkV L).length = 16 ∧ idxM (L.drop ((idxM L).toNat + 1)) < 0 then
    if wrO c i (mkZ L) = true then
      if hmM sec (wrS c i au (mkZ L)) = mkV L then (c, i, au, cutI L (idxM L).toNat, 0) else (0, 0, z16, [], 5)
    else (0, 0, z16, [], 2)
  else (0, 0, z16, [], 5)
theorem opA_no {c i : Int} {au sec : List UInt8} {L : List (Int × List UInt8)} (h : ¬ (0 ≤ idxM L ∧ (mkV L).length = 16 ∧ idxM (L.drop ((idxM L).toNat + 1)) < 0)) : opA c i au L sec = (0, 0, z16, [], 5) := by unfold opA; rw [if_neg h]
theorem opA_w {c i : Int} {au sec : List UInt8} {L : List (Int × List UInt8)} (h : 0 ≤ idxM L ∧ (mkV L).length = 16 ∧ idxM (L.drop ((idxM L).toNat + 1)) < 0) (hw : wrO c i (mkZ L) = false) : opA c i au L sec = (0, 0, z16, [], 2) := by unfold opA; rw [if_pos h, if_neg (by rw [hw]; simp)]
theorem opA_n {c i : Int} {au sec : List UInt8} {L : List (Int × List UInt8)} (h : 0 ≤ idxM L ∧ (mkV L).length = 16 ∧ idxM (L.drop ((idxM L).toNat + 1)) < 0) (hw : wrO c i (mkZ L) = true) (hm : ¬ hmM sec (wrS c i au (mkZ L)) = mkV L) : opA c i au L sec = (0, 0, z16, [], 5) := by unfold opA; rw [if_pos h, if_pos hw, if_neg hm]
theorem opA_y {c i : Int} {au sec : List UInt8} {L : List (Int × List UInt8)} (h : 0 ≤ idxM L ∧ (mkV L).length = 16 ∧ idxM (L.drop ((idxM L).toNat + 1)) < 0) (hw : wrO c i (mkZ L) = true) (hm : hmM sec (wrS c i au (mkZ L)) = mkV L) : opA c i au L sec = (c, i, au, cutI L (idxM L).toNat, 0) := by unfold opA; rw [if_pos h, if_pos hw, if_pos hm]
theorem cutI_set (L : List (Int × List UInt8)) (k : Nat) (x : Int × List UInt8) : cutI (L.set k x) k = cutI L k := by
  unfold cutI
  rw [List.take_set, List.drop_set, if_pos (by omega), List.set_eq_of_length_le (by simp; omega)]
theorem idxF_lt : ∀ (L : List (Int × List UInt8)) (k : Nat), idxF L k < (k + L.length : Nat) ∧ (idxF L k = -1 ∨ (k : Int) ≤ idxF L k)
  | [], k => ⟨by simp only [idxF]; omega, .inl rfl⟩
  | a :: L, k => by
    have h := idxF_lt L (k + 1)
    unfold idxF
    split
    · exact ⟨by simp; omega, .inr (Int.le_refl _)⟩
    · exact ⟨by have := h.1; simp at this ⊢; omega, by rcases h.2 with h | h; exact .inl h; exact .inr (by omega)⟩
theorem idxM_lt (L : List (Int × List UInt8)) : idxM L < L.length ∧ (idxM L = -1 ∨ 0 ≤ idxM L) := by
  have := idxF_lt L 0
  unfold idxM
  simpa using this
theorem atR_set : ∀ (L : List (Int × List UInt8)) (k : Nat) (z : List UInt8), k < L.length → (atR L).set (k * 2 + 1) (.rob z) = atR (L.set k ((L.getD k (0, [])).1, z))
  | [], k, z, h => by simp at h
  | a :: L, 0, z, h => rfl
  | a :: L, k + 1, z, h => by
    have ih := atR_set L k z (by simpa using h)
    rw [show (k + 1) * 2 + 1 = k * 2 + 1 + 2 by omega]
    show (D.int .i64 a.1 :: D.rob a.2 :: atR L).set (k * 2 + 1 + 2) (.rob z) = D.int .i64 a.1 :: D.rob a.2 :: atR (L.set k ((L.getD k (0, [])).1, z))
    rw [← ih]
    rfl
theorem atR_setf (L : List (Int × List UInt8)) (k : Nat) (z : List UInt8) (h : k < L.length) : ((atR L).set (k * 2 + 1) (.ownb z)).map frz = atR (L.set k ((L.getD k (0, [])).1, z)) := by
  rw [List.map_set, atRf, ← atR_set L k z h]
  rfl
theorem atR_setfr (L : List (Int × List UInt8)) (k : Nat) (z : List UInt8) : ((atR L).set (k * 2 + 1) (.ownb z)).all D.fr0 = true := by
  refine List.all_eq_true.2 fun x hx => ?_
  rcases List.mem_or_eq_of_mem_set hx with h | rfl
  · exact List.all_eq_true.1 (atR_fr L) x h
  · rfl
theorem atR_seti (L : List (Int × List UInt8)) (k : Nat) (x : D) (h : k < L.length) : ((atR L).set (k * 2 + 1) x)[k * 2 + 1]? = some x := by rw [List.getElem?_set_self (by rw [atR_len]; omega)]
theorem atR_val (L : List (Int × List UInt8)) (k : Nat) (h : k < L.length) : (atR L).getD (k * 2 + 1) .bot = fR L k 1 := by rw [List.getD_eq_getElem?_getD, (atR_get L k 1 h (by omega)).1]; rfl
theorem rof_drop (L : List (Int × List UInt8)) (k : Nat) : D.rof 2 (L.length - ((k : Int) + 1).toNat) (fun a b => fR L (((k : Int) + 1).toNat + a) b) = D.rof 2 (L.drop (k + 1)).length (fR (L.drop (k + 1))) := by
  rw [show ((k : Int) + 1).toNat = k + 1 by omega, List.length_drop]
  congr 1
  funext a b
  unfold fR
  simp [List.getD_eq_getElem?_getD, List.getElem?_drop]
attribute [local irreducible] bodyA wrS wrO idxF idxM z16 seV slV rpV rdO rdS prs rdP prC ofP opA mkV mkZ cutI

namespace Uopen_fc
theorem U : type_of% @hmM_len ∧ type_of% @hmM_take ∧ type_of% (@drop_rep UInt8) ∧ type_of% (@drop_rep D) ∧ type_of% (@List.take_zero UInt8) ∧ type_of% (@List.take_zero D) ∧ type_of% @q16_take ∧ type_of% @q16_len ∧ type_of% @q16_fold ∧ type_of% @q16_map ∧ type_of% @decL ∧ type_of% @decI ∧ type_of% @atR_len ∧ type_of% @atO_len ∧ type_of% @atR_sc ∧ type_of% @atR_tk ∧ type_of% @atR_app1 := ⟨@hmM_len, @hmM_take, (@drop_rep UInt8), (@drop_rep D), (@List.take_zero UInt8), (@List.take_zero D), @q16_take, @q16_len, @q16_fold, @q16_map, @decL, @decI, @atR_len, @atO_len, @atR_sc, @atR_tk, @atR_app1⟩
end Uopen_fc
open Uopen_fc
theorem open_fc (c i : Int) (au : List UInt8) (L : List (Int × List UInt8)) (sec : List UInt8) (c' i' : Int) (au' : List UInt8) (L' : List (Int × List UInt8)) (e' : Int) (hL : L.length ≤ 1000000) (hs : sec.length ≤ 100000) (h : opA c i (q16 au) L sec = (c', i', q16 au', L', e')) : FC Tryd.prog GO 77 [.agg [.int .i64 c, .int .i64 i, .u8 (gb au 0), .u8 (gb au 1), .u8 (gb au 2), .u8 (gb au 3), .u8 (gb au 4), .u8 (gb au 5), .u8 (gb au 6), .u8 (gb au 7), .u8 (gb au 8), .u8 (gb au 9), .u8 (gb au 10), .u8 (gb au 11), .u8 (gb au 12), .u8 (gb au 13), .u8 (gb au 14), .u8 (gb au 15), .owns 2 L.length (atR L)], .rob sec] (.tup [.agg [.int .i64 c', .int .i64 i', .u8 (gb au' 0), .u8 (gb au' 1), .u8 (gb au' 2), .u8 (gb au' 3), .u8 (gb au' 4), .u8 (gb au' 5), .u8 (gb au' 6), .u8 (gb au' 7), .u8 (gb au' 8), .u8 (gb au' 9), .u8 (gb au' 10), .u8 (gb au' 11), .u8 (gb au' 12), .u8 (gb au' 13), .u8 (gb au' 14), .u8 (gb au' 15), .owns 2 L'.length (atR L')], .int .i64 e']) none := by
  refine fict_ 76 ti_eq gpO Tryd.func77 (fun C hE hm hP hrc hrn => ?_) (had := (by exact adl2_))
  have hix := indexF_fc L hL
  obtain ⟨hlt, hge⟩ := idxM_lt L
  refine VC.weak ?_ (kgiveA 0 19400 (.agg [.int .i64 c, .int .i64 i, .u8 (gb au 0), .u8 (gb au 1), .u8 (gb au 2), .u8 (gb au 3), .u8 (gb au 4), .u8 (gb au 5), .u8 (gb au 6), .u8 (gb au 7), .u8 (gb au 8), .u8 (gb au 9), .u8 (gb au 10), .u8 (gb au 11), .u8 (gb au 12), .u8 (gb au 13), .u8 (gb au 14), .u8 (gb au 15), .rof 2 L.length (fR L)]))
  refine vs ?_
  refine R_ hE ?_
  refine sq_n ?_
  refine vs ?_
  first | refine O_ ?_ | refine OD_ hm ?_
  refine G_ 2 hE ?_
  refine rc_ hE hP (hix.any) Tryd.func104 ?_ (hm := by exact ma2_) (hnr := by exact nrt2_) (had := by exact adt2_)
  refine G_ 200 hE ?_
  first | refine rz ?_ | refine ZD_ ?_
  refine sq_n ?_
  refine vs ?_
  refine vs ?_
  by_cases hk0 : idxM L < 0
  · rw [opA_no (by omega)] at h
    simp only [Prod.mk.injEq] at h
    obtain ⟨rfl, rfl, hz, rfl, rfl⟩ := h
    simp only [z16_q hz, Nat.reduceLT]
    first | refine O_ ?_ | refine OD_ hm ?_
    refine G_ 2 hE ?_
    rw [decide_eq_true hk0]
    refine G_ 1 hE ?_
    refine GF_ hE (rfl) ?_
    refine GF_ hE (rfl) ?_
    refine GF_ hE (rfl) ?_
    refine GF_ hE (rfl) ?_
    refine GF_ hE (rfl) ?_
    refine GF_ hE (rfl) ?_
    refine GF_ hE (rfl) ?_
    refine GI_ (.bool true) hE (rfl) ?_
    refine G_ 2 hE ?_
    refine GF_ hE (rfl) ?_
    refine GF_ hE (rfl) ?_
    refine GF_ hE (rfl) ?_
    refine GF_ hE (rfl) ?_
    refine GF_ hE (rfl) ?_
    refine GI_ (.bool true) hE (rfl) ?_
    refine G_ 200 hE ?_
    first | refine rz ?_ | refine ZD_ ?_
    refine sq_n ?_
    refine vT hE rfl (rfl) ?_
    refine vs ?_
    first | refine O_ ?_ | refine OD_ hm ?_
    refine G_ 200 hE ?_
    first | refine rz ?_ | refine ZD_ ?_
    refine sq_n ?_
    refine VC.weak ?_ (knilcs 4 18 2 (by exact rfl) (by exact rfl) (by exact rfl))
    refine wv_ (sos_ 4 18 970 0) ?_
    refine A_ ?_
    exact retct_ (h := by exact ma3_)
  · obtain ⟨k, hk⟩ : ∃ k : Nat, idxM L = k := ⟨(idxM L).toNat, by omega⟩
    have hkL : k < L.length := by omega
    obtain ⟨m, hmv⟩ : ∃ m, m = mkV L := ⟨_, rfl⟩
    have hf1 : fR L k 1 = .rob m := by rw [hmv]; unfold mkV; rw [hk, Int.toNat_natCast]; rfl
    rw [hk]
    rw [hk] at hk0
    first | refine O_ ?_ | refine OD_ hm ?_
    refine G_ 2 hE ?_
    rw [decide_eq_false hk0]
    refine G_ 1 hE ?_
    refine GT_ hE (rfl) ?_
    refine GT_ hE (rfl) ?_
    refine GT_ hE (rfl) ?_
    refine GT_ hE (rfl) ?_
    refine GT_ hE (rfl) ?_
    refine GT_ hE (rfl) ?_
    rw [hf1]
    refine GT_ hE (rfl) ?_
    refine GT_ hE (rfl) ?_
    by_cases h16 : (m.length : Int) = 16
    · rw [decide_eq_true h16]
      refine G_ 2 hE ?_
      refine GT_ hE (rfl) ?_
      refine GT_ hE (rfl) ?_
      refine GT_ hE (rfl) ?_
      refine GT_ hE (rfl) ?_
      refine GT_ hE (rfl) ?_
      rw [rof_drop L k]
      have hcf := containsF_fc (L.drop (k + 1)) (by rw [List.length_drop]; omega)
      refine rct_ hE hP (hcf.any) Tryd.func71 (rfl) ?_ (hm := by exact ma2_) (hnr := by exact nrt2_) (had := by exact adt2_)
      by_cases h2 : 0 ≤ idxM (L.drop (k + 1))
      · rw [opA_no (by rw [hk, Int.toNat_natCast]; omega)] at h
        simp only [Prod.mk.injEq] at h
        obtain ⟨rfl, rfl, hz, rfl, rfl⟩ := h
        simp only [z16_q hz, Nat.reduceLT]
        rw [decide_eq_true h2]
        refine G_ 200 hE ?_
        first | refine rz ?_ | refine ZD_ ?_
        refine sq_n ?_
        refine vT hE rfl (rfl) ?_
        refine vs ?_
        first | refine O_ ?_ | refine OD_ hm ?_
        refine G_ 200 hE ?_
        first | refine rz ?_ | refine ZD_ ?_
        refine sq_n ?_
        refine VC.weak ?_ (knilcs 4 18 2 (by exact rfl) (by exact rfl) (by exact rfl))
        refine wv_ (sos_ 4 18 970 0) ?_
        refine A_ ?_
        exact retct_ (h := by exact ma3_)
      · rw [decide_eq_false h2]
        refine G_ 200 hE ?_
        first | refine rz ?_ | refine ZD_ ?_
        refine A_ ?_
        first | refine O_ ?_ | refine OD_ hm ?_
        refine G_ 2 hE ?_
        refine rc_ hE hP ((aclone_fc L (by omega) hL).any) Tryd.func108 ?_ (hm := by (repeat' (first | exact .tnil | apply mcf rfl | exact mat_fros))) (had := by exact adt2_)
        refine G_ 200 hE ?_
        first | refine rz ?_ | refine ZD_ ?_
        refine sq_n ?_
        refine vs ?_
        first | refine O_ ?_ | refine OD_ hm ?_
        have hv := atR_val L k hkL
        rw [hf1] at hv
        refine G_ 4 hE ?_
        refine L_ hE ?_ (hd := by exact hv) (hg := by simp only [hv]; exact sg_)
        refine G_ 200 hE ?_
        first | refine rz ?_ | refine ZD_ ?_
        refine A_ ?_
        refine VC.weak ?_ (kclose 38 (k * 2 + 1) 46 (by exact rfl) (by exact atR_seti L k _ hkL) (by exact rfl) (by exact rfl) (by exact rfl) (by exact rfl) (by exact List.set_set ..))
        rw [z16_d]
        refine VC.weak ?_ (kfreeze 38 (by exact rfl) (by exact atR_setfr L k _) (by exact atR_setf L k _ hkL))
        have hcd : 0 ≤ idxM L ∧ (mkV L).length = 16 ∧ idxM (L.drop ((idxM L).toNat + 1)) < 0 := ⟨by omega, by rw [← hmv]; omega, by rw [hk, Int.toNat_natCast]; omega⟩
        obtain ⟨M, hM⟩ : ∃ M, M = L.set k ((L.getD k (0, [])).1, z16) := ⟨_, rfl⟩
        have hMz : mkZ L = M := by rw [hM]; unfold mkZ; rw [hk, Int.toNat_natCast]
        have hMl : M.length = L.length := by rw [hM, List.length_set]
        have hMc : cutI M k = cutI L k := by rw [hM, cutI_set]
        have wr := write_fc c i au M
        rw [← hM, ← hMl]
        first | refine O_ ?_ | refine OD_ hm ?_
        refine G_ 1 hE ?_
        refine rc_ hE hP (wr.any) Tryd.func31 ?_ (hm := by exact ma2_) (hnr := by exact nrt2_) (had := by exact adt2_)
        rcases hw : wrO c i M
        · have hop := opA_w (au := q16 au) (sec := sec) hcd (by rw [hMz]; exact hw)
          rw [hop] at h
          simp only [Prod.mk.injEq] at h
          obtain ⟨rfl, rfl, hz, rfl, rfl⟩ := h
          simp only [z16_q hz, Nat.reduceLT]
          rw [wrV_no hw]
          refine G_ 200 hE ?_
          first | refine rz ?_ | refine ZD_ ?_
          refine sq_n ?_
          refine vs ?_
          refine vs ?_
          first | refine O_ ?_ | refine OD_ hm ?_
          refine G_ 200 hE ?_
          first | refine rz ?_ | refine ZD_ ?_
          refine sq_n ?_
          refine vT hE rfl (rfl) ?_
          refine vs ?_
          first | refine O_ ?_ | refine OD_ hm ?_
          refine G_ 200 hE ?_
          first | refine rz ?_ | refine ZD_ ?_
          refine sq_n ?_
          refine VC.weak ?_ (knilcs 4 18 2 (by exact rfl) (by exact rfl) (by exact rfl))
          refine wv_ (sos_ 4 18 970 0) ?_
          refine A_ ?_
          exact retct_ (h := by exact ma3_)
        · obtain ⟨-, -, -, -, hbl⟩ := (wrO_iff _ _ _).1 hw
          obtain ⟨P, hP1⟩ : ∃ P, P = wrS c i (q16 au) M := ⟨_, rfl⟩
          have hPl : P.length = 20 + (bodyA M).length := by rw [hP1, wrS_len, q16_len]; omega
          have mac := oMac_fc sec [P] (by omega) (by simp) (by simp; omega)
          rw [show [P].flatten = P by simp] at mac
          rw [wrV_yes hw, ← hP1]
          refine G_ 200 hE ?_
          first | refine rz ?_ | refine ZD_ ?_
          refine A_ ?_
          first | refine O_ ?_ | refine OD_ hm ?_
          refine G_ 3 hE ?_
          refine rc_ hE hP (mac) Tryd.func106 ?_
          refine G_ 200 hE ?_
          first | refine rz ?_ | refine ZD_ ?_
          refine sq_n ?_
          refine vs ?_
          have hml := hmM_len sec P
          have sm := same_fc (hmM sec P) m (by omega)
          first | refine O_ ?_ | refine OD_ hm ?_
          refine G_ 2 hE ?_
          refine rc_ hE hP (sm.any) Tryd.func76 ?_
          by_cases hmm : hmM sec P = m
          · have hop := opA_y (au := q16 au) (sec := sec) hcd (by rw [hMz]; exact hw) (by rw [hMz, ← hP1, ← hmv]; exact hmm)
            rw [hop, hk, Int.toNat_natCast] at h
            simp only [Prod.mk.injEq] at h
            obtain ⟨rfl, rfl, hq, rfl, rfl⟩ := h
            simp only [← q16_inj hq, Nat.reduceLT]
            rw [decide_eq_true hmm]
            refine G_ 200 hE ?_
            first | refine rz ?_ | refine ZD_ ?_
            refine A_ ?_
            have dl := delete_fc GO M k (by omega) (by omega)
            have hcl : (cutI L k).length = M.length - 1 := by rw [cutI_len L k hkL]; omega
            rw [hMc, ← hcl] at dl
            first | refine O_ ?_ | refine OD_ hm ?_
            refine G_ 4 hE ?_
            rw [show (k : Int) + 1 = ((k + 1 : Nat) : Int) by omega]
            refine rco_ hE hP (dl) Tryd.func109 ?_
            refine G_ 200 hE ?_
            first | refine rz ?_ | refine ZD_ ?_
            refine A_ ?_
            exact retct_ (h := by exact ma3_)
          · have hop := opA_n (au := q16 au) (sec := sec) hcd (by rw [hMz]; exact hw) (by rw [hMz, ← hP1, ← hmv]; exact hmm)
            rw [hop] at h
            simp only [Prod.mk.injEq] at h
            obtain ⟨rfl, rfl, hz, rfl, rfl⟩ := h
            simp only [z16_q hz, Nat.reduceLT]
            rw [decide_eq_false hmm]
            refine G_ 200 hE ?_
            first | refine rz ?_ | refine ZD_ ?_
            refine sq_n ?_
            refine vT hE rfl (rfl) ?_
            refine vs ?_
            first | refine O_ ?_ | refine OD_ hm ?_
            refine G_ 200 hE ?_
            first | refine rz ?_ | refine ZD_ ?_
            refine sq_n ?_
            refine VC.weak ?_ (knilcs 4 18 2 (by exact rfl) (by exact rfl) (by exact rfl))
            refine wv_ (sos_ 4 18 970 0) ?_
            refine A_ ?_
            exact retct_ (h := by exact ma3_)
    · rw [opA_no (by rw [← hmv]; omega)] at h
      simp only [Prod.mk.injEq] at h
      obtain ⟨rfl, rfl, hz, rfl, rfl⟩ := h
      simp only [z16_q hz, Nat.reduceLT]
      rw [decide_eq_false h16]
      refine G_ 2 hE ?_
      refine GF_ hE (rfl) ?_
      refine GF_ hE (rfl) ?_
      refine GF_ hE (rfl) ?_
      refine GF_ hE (rfl) ?_
      refine GF_ hE (rfl) ?_
      refine GI_ (.bool true) hE (rfl) ?_
      refine G_ 200 hE ?_
      first | refine rz ?_ | refine ZD_ ?_
      refine sq_n ?_
      refine vT hE rfl (rfl) ?_
      refine vs ?_
      first | refine O_ ?_ | refine OD_ hm ?_
      refine G_ 200 hE ?_
      first | refine rz ?_ | refine ZD_ ?_
      refine sq_n ?_
      refine VC.weak ?_ (knilcs 4 18 2 (by exact rfl) (by exact rfl) (by exact rfl))
      refine wv_ (sos_ 4 18 970 0) ?_
      refine A_ ?_
      exact retct_ (h := by exact ma3_)
end Go.Proofs.YtocfhkmdkdjinaaDoor

/- radius: Open, Opened. Printed by wp.py. -/
namespace Go.Proofs.YtocfhkmdkdjinaaDoor
open Go Go.RowKit
set_option linter.unusedVariables false
set_option linter.unusedSimpArgs false
set_option maxRecDepth 100000
set_option maxHeartbeats 4000000
attribute [local irreducible] inR VC RG VCn sq inS lq nq jq Wk
attribute [local simp] nmL_atO
/-- An Ask that is opened. -/
def opnP (l sec : List UInt8) : Int × Int × List UInt8 × List (Int × List UInt8) × Int :=
  let p := ofP l true
  if p.2.2.2.2 = 0 then opA p.1 p.2.1 p.2.2.1 p.2.2.2.1 sec else (0, 0, z16, [], p.2.2.2.2)
theorem ofP_ex (l : List UInt8) (ask : Bool) : ∃ c i au L e, ofP l ask = (c, i, q16 au, L, e) ∧ L.length ≤ l.length := by
  unfold ofP
  split
  · exact ⟨_, _, z16, _, _, rfl, by simp⟩
  · rcases h : rdS l with _ | L
    · exact ⟨_, _, z16, _, _, by rw [rdP_none h]; rfl, by simp⟩
    · obtain ⟨-, -, -, hok, hb⟩ := wr_rd l L h
      have h1 := bodyA_ge L
      rw [hb, List.length_drop] at h1
      exact ⟨_, _, _, _, _, rdP_some h, by omega⟩
theorem opnP_y {l sec : List UInt8} {c i : Int} {au : List UInt8} {L : List (Int × List UInt8)} (h : ofP l true = (c, i, au, L, 0)) : opnP l sec = opA c i au L sec := by unfold opnP; rw [h]; rfl
theorem opnP_n {l sec : List UInt8} {c i : Int} {au : List UInt8} {L : List (Int × List UInt8)} {e : Int} (h : ofP l true = (c, i, au, L, e)) (he : ¬ e = 0) : opnP l sec = (0, 0, z16, [], e) := by unfold opnP; rw [h]; simp [he]
attribute [local irreducible] bodyA wrS wrO idxF idxM z16 seV slV rpV rdO rdS prs rdP prC ofP opA mkV mkZ cutI opnP

namespace Uopen2_fc
theorem U : type_of% (@drop_rep UInt8) ∧ type_of% (@drop_rep D) ∧ type_of% (@List.take_zero UInt8) ∧ type_of% (@List.take_zero D) ∧ type_of% @q16_take ∧ type_of% @q16_len ∧ type_of% @q16_fold ∧ type_of% @q16_map ∧ type_of% @decL ∧ type_of% @decI ∧ type_of% @atR_len ∧ type_of% @atO_len ∧ type_of% @atR_sc ∧ type_of% @atR_tk ∧ type_of% @atR_app1 ∧ type_of% @md_len ∧ type_of% @md_take := ⟨(@drop_rep UInt8), (@drop_rep D), (@List.take_zero UInt8), (@List.take_zero D), @q16_take, @q16_len, @q16_fold, @q16_map, @decL, @decI, @atR_len, @atO_len, @atR_sc, @atR_tk, @atR_app1, @md_len, @md_take⟩
end Uopen2_fc
open Uopen2_fc
theorem open2_fc (l sec : List UInt8) (c' i' : Int) (au' : List UInt8) (L' : List (Int × List UInt8)) (e' : Int) (hl : l.length ≤ 1000000) (hs : sec.length ≤ 100000) (h : opnP l sec = (c', i', q16 au', L', e')) : FC Tryd.prog GO 39 [.rob l, .rob sec] (.tup [.agg [.int .i64 c', .int .i64 i', .u8 (gb au' 0), .u8 (gb au' 1), .u8 (gb au' 2), .u8 (gb au' 3), .u8 (gb au' 4), .u8 (gb au' 5), .u8 (gb au' 6), .u8 (gb au' 7), .u8 (gb au' 8), .u8 (gb au' 9), .u8 (gb au' 10), .u8 (gb au' 11), .u8 (gb au' 12), .u8 (gb au' 13), .u8 (gb au' 14), .u8 (gb au' 15), .owns 2 L'.length (atR L')], .int .i64 e']) none := by
  refine fict_ 22 ti_eq gpO Tryd.func39 (fun C hE hm hP hrc hrn => ?_) (had := (by exact adl2_))
  obtain ⟨c, i, au, L, e, hr, hLl⟩ := ofP_ex l true
  have off := of_fc l true c i au L e hr
  refine vs ?_
  refine R_ hE ?_
  refine sq_n ?_
  refine vs ?_
  first | refine O_ ?_ | refine OD_ hm ?_
  refine G_ 1 hE ?_
  refine rc_ hE hP (off.any) Tryd.func75 ?_ (hm := by exact ma2_) (hnr := by exact nrt2_) (had := by exact adt2_)
  refine G_ 200 hE ?_
  first | refine rz ?_ | refine ZD_ ?_
  refine sq_n ?_
  refine vs ?_
  by_cases he : e = 0
  · subst he
    have hop := opnP_y (sec := sec) hr
    rw [hop] at h
    have opf := open_fc c i au L sec c' i' au' L' e' (by omega) hs h
    refine A_ ?_
    refine VC.weak ?_ (kfreeze 18510 (by exact rfl) (by exact atO_fr L) (by exact atO_frz L))
    first | refine O_ ?_ | refine OD_ hm ?_
    refine G_ 2 hE ?_
    refine rco_ hE hP (opf) Tryd.func77 ?_
    refine G_ 200 hE ?_
    first | refine rz ?_ | refine ZD_ ?_
    refine A_ ?_
    exact retct_ (h := by exact ma3_)
  · have hop := opnP_n (sec := sec) hr he
    rw [hop] at h
    simp only [Prod.mk.injEq] at h
    obtain ⟨rfl, rfl, hz, rfl, rfl⟩ := h
    simp only [z16_q hz, Nat.reduceLT]
    refine vs ?_
    first | refine O_ ?_ | refine OD_ hm ?_
    refine G_ 2 hE ?_
    rw [decide_eq_false he]
    refine G_ 200 hE ?_
    first | refine rz ?_ | refine ZD_ ?_
    refine sq_n ?_
    refine vT hE rfl (rfl) ?_
    refine vs ?_
    first | refine O_ ?_ | refine OD_ hm ?_
    refine G_ 200 hE ?_
    first | refine rz ?_ | refine ZD_ ?_
    refine sq_n ?_
    refine VC.weak ?_ (knilcs 4 18 2 (by exact rfl) (by exact rfl) (by exact rfl))
    refine wv_ (sos_ 4 18 970 0) ?_
    refine A_ ?_
    exact retct_ (h := by exact ma3_)
end Go.Proofs.YtocfhkmdkdjinaaDoor

/- radius: Opened. Printed by wp.py. -/
namespace Go.Proofs.YtocfhkmdkdjinaaDoor
open Go Go.RowKit
set_option linter.unusedVariables false
set_option linter.unusedSimpArgs false
set_option maxRecDepth 100000
set_option maxHeartbeats 4000000
attribute [local irreducible] inR VC RG VCn sq inS lq nq jq Wk
attribute [local simp] nmL_atO
/-- The sum that an answer's authenticator is. -/
def opdS (l ak sec : List UInt8) : List UInt8 := md (l.take 4 ++ (ak ++ (l.drop 20 ++ sec)))
/-- An answer that is opened. -/
def opdP (l ak sec : List UInt8) : Int × Int × List UInt8 × List (Int × List UInt8) × Int :=
  let p := ofP l false
  if p.2.2.2.2 = 0 then
    if opdS l ak sec = p.2.2.1 then
      let q := opA p.1 p.2.1 ak p.2.2.2.1 sec
      if q.2.2.2.2 = 0 then (q.1, q.2.1, p.2.2.1, q.2.2.2.1, 0) else (0, 0, z16, [], q.2.2.2.2)
    else (0, 0, z16, [], 5)
  else (0, 0, z16, [], p.2.2.2.2)
theorem ofP_len {l : List UInt8} {ask : Bool} {c i : Int} {au : List UInt8} {L : List (Int × List UInt8)} (h : ofP l ask = (c, i, au, L, 0)) : 20 ≤ l.length := by
  unfold ofP at h
  split at h
  · simp at h
  · rcases hr : rdS l with _ | M
    · rw [rdP_none hr] at h; simp at h
    · obtain ⟨-, -, ho, -, -⟩ := wr_rd l M hr
      exact ((rdO_iff l).1 ho).1
theorem opdP_n {l ak sec : List UInt8} {c i : Int} {au : List UInt8} {L : List (Int × List UInt8)} {e : Int} (h : ofP l false = (c, i, au, L, e)) (he : ¬ e = 0) : opdP l ak sec = (0, 0, z16, [], e) := by unfold opdP; rw [h]; simp [he]
theorem opdP_m {l ak sec : List UInt8} {c i : Int} {au : List UInt8} {L : List (Int × List UInt8)} (h : ofP l false = (c, i, au, L, 0)) (hm : ¬ opdS l ak sec = au) : opdP l ak sec = (0, 0, z16, [], 5) := by unfold opdP; rw [h]; simp [hm]
theorem opdP_e {l ak sec : List UInt8} {c i c2 i2 : Int} {au au2 : List UInt8} {L L2 : List (Int × List UInt8)} {e : Int} (h : ofP l false = (c, i, au, L, 0)) (hm : opdS l ak sec = au) (hq : opA c i ak L sec = (c2, i2, au2, L2, e)) (he : ¬ e = 0) : opdP l ak sec = (0, 0, z16, [], e) := by unfold opdP; rw [h]; simp [hm, hq, he]
theorem opdP_y {l ak sec : List UInt8} {c i c2 i2 : Int} {au au2 : List UInt8} {L L2 : List (Int × List UInt8)} (h : ofP l false = (c, i, au, L, 0)) (hm : opdS l ak sec = au) (hq : opA c i ak L sec = (c2, i2, au2, L2, 0)) : opdP l ak sec = (c2, i2, au, L2, 0) := by unfold opdP; rw [h]; simp [hm, hq]
theorem opA_ex (c i : Int) (au : List UInt8) (L : List (Int × List UInt8)) (sec : List UInt8) : ∃ c' i' au' L' e', opA c i (q16 au) L sec = (c', i', q16 au', L', e') := by
  unfold opA
  split
  · split
    · split
      · exact ⟨_, _, _, _, _, rfl⟩
      · exact ⟨_, _, z16, _, _, rfl⟩
    · exact ⟨_, _, z16, _, _, rfl⟩
  · exact ⟨_, _, z16, _, _, rfl⟩
theorem oOf4_fc (p q r s : List UInt8) (hb : p.length + (q.length + (r.length + s.length)) ≤ 100000000000) : FC Tryd.prog GO 74 [.rof 1 [p, q, r, s].length (fun i _ => .rob ([p, q, r, s].getD i []))] (.aggb (md (p ++ (q ++ (r ++ s))))) none := by
  have h := oOf_fc [p, q, r, s] (by simp) (by simpa using hb)
  rw [show [p, q, r, s].flatten = p ++ (q ++ (r ++ s)) by simp] at h
  exact h
attribute [local irreducible] bodyA wrS wrO idxF idxM z16 seV slV rpV rdO rdS prs rdP prC ofP opA mkV mkZ cutI opnP opdP opdS md

namespace Uopened_fc
theorem U : type_of% (@drop_rep UInt8) ∧ type_of% (@drop_rep D) ∧ type_of% (@List.take_zero UInt8) ∧ type_of% (@List.take_zero D) ∧ type_of% @q16_take ∧ type_of% @q16_len ∧ type_of% @q16_fold ∧ type_of% @q16_map ∧ type_of% @decL ∧ type_of% @decI ∧ type_of% @atR_len ∧ type_of% @atO_len ∧ type_of% @atR_sc ∧ type_of% @atR_tk ∧ type_of% @atR_app1 ∧ type_of% @md_len ∧ type_of% @md_take := ⟨(@drop_rep UInt8), (@drop_rep D), (@List.take_zero UInt8), (@List.take_zero D), @q16_take, @q16_len, @q16_fold, @q16_map, @decL, @decI, @atR_len, @atO_len, @atR_sc, @atR_tk, @atR_app1, @md_len, @md_take⟩
end Uopened_fc
open Uopened_fc
theorem opened_fc (l ak sec : List UInt8) (c' i' : Int) (au' : List UInt8) (L' : List (Int × List UInt8)) (e' : Int) (hl : l.length ≤ 1000000) (hs : sec.length ≤ 100000) (h : opdP l (q16 ak) sec = (c', i', q16 au', L', e')) : FC Tryd.prog GO 21 [.rob l, .aggb (q16 ak), .rob sec] (.tup [.agg [.int .i64 c', .int .i64 i', .u8 (gb au' 0), .u8 (gb au' 1), .u8 (gb au' 2), .u8 (gb au' 3), .u8 (gb au' 4), .u8 (gb au' 5), .u8 (gb au' 6), .u8 (gb au' 7), .u8 (gb au' 8), .u8 (gb au' 9), .u8 (gb au' 10), .u8 (gb au' 11), .u8 (gb au' 12), .u8 (gb au' 13), .u8 (gb au' 14), .u8 (gb au' 15), .owns 2 L'.length (atR L')], .int .i64 e']) none := by
  refine fict_ 51 ti_eq gpO Tryd.func21 (fun C hE hm hP hrc hrn => ?_) (had := (by exact adl2_))
  obtain ⟨c, i, au, L, e, hr, hLl⟩ := ofP_ex l false
  have off := of_fc l false c i au L e hr
  refine vs ?_
  refine R_ hE ?_
  refine sq_n ?_
  refine vs ?_
  first | refine O_ ?_ | refine OD_ hm ?_
  refine G_ 1 hE ?_
  refine rc_ hE hP (off.any) Tryd.func75 ?_ (hm := by exact ma2_) (hnr := by exact nrt2_) (had := by exact adt2_)
  refine G_ 200 hE ?_
  first | refine rz ?_ | refine ZD_ ?_
  refine sq_n ?_
  refine vs ?_
  by_cases he : e = 0
  · subst he
    have h20 := ofP_len hr
    have of4 := oOf4_fc (l.take 4) (q16 ak) (l.drop 20) sec (by rw [List.length_take, List.length_drop, q16_len]; omega)
    have hml := md_len (l.take 4 ++ (q16 ak ++ (l.drop 20 ++ sec)))
    refine A_ ?_
    first | refine O_ ?_ | refine OD_ hm ?_
    refine G_ 7 hE ?_
    refine rc_ hE hP (of4) Tryd.func74 ?_
    have hQs : opdS l (q16 ak) sec = md (l.take 4 ++ (q16 ak ++ (l.drop 20 ++ sec))) := by unfold opdS; rfl
    have sm := same_fc (md (l.take 4 ++ (q16 ak ++ (l.drop 20 ++ sec)))) (q16 au) (by omega)
    obtain ⟨c2, i2, au2, L2, e2, ho2⟩ := opA_ex c i ak L sec
    have opf := open_fc c i ak L sec c2 i2 au2 L2 e2 (by omega) hs ho2
    refine G_ 200 hE ?_
    first | refine rz ?_ | refine ZD_ ?_
    refine A_ ?_
    first | refine O_ ?_ | refine OD_ hm ?_
    refine G_ 2 hE ?_
    refine rc_ hE hP (sm.any) Tryd.func76 ?_
    by_cases hmm : md (l.take 4 ++ (q16 ak ++ (l.drop 20 ++ sec))) = q16 au
    · rw [decide_eq_true hmm]
      refine G_ 200 hE ?_
      first | refine rz ?_ | refine ZD_ ?_
      refine A_ ?_
      refine VC.weak ?_ (kfreeze 18514 (by exact rfl) (by exact atO_fr L) (by exact atO_frz L))
      first | refine O_ ?_ | refine OD_ hm ?_
      refine G_ 2 hE ?_
      refine rco_ hE hP (opf) Tryd.func77 ?_
      by_cases he2 : e2 = 0
      · subst he2
        have hop := opdP_y (ak := q16 ak) (sec := sec) hr (by rw [hQs]; exact hmm) ho2
        rw [hop] at h
        simp only [Prod.mk.injEq] at h
        obtain ⟨rfl, rfl, hq, rfl, rfl⟩ := h
        simp only [← q16_inj hq, Nat.reduceLT]
        refine G_ 200 hE ?_
        first | refine rz ?_ | refine ZD_ ?_
        refine A_ ?_
        exact retct_ (h := by exact ma3_)
      · have hop := opdP_e (ak := q16 ak) (sec := sec) hr (by rw [hQs]; exact hmm) ho2 he2
        rw [hop] at h
        simp only [Prod.mk.injEq] at h
        obtain ⟨rfl, rfl, hz, rfl, rfl⟩ := h
        simp only [z16_q hz, Nat.reduceLT]
        refine G_ 200 hE ?_
        first | refine rz ?_ | refine ZD_ ?_
        refine sq_n ?_
        refine vs ?_
        refine vs ?_
        first | refine O_ ?_ | refine OD_ hm ?_
        refine G_ 2 hE ?_
        rw [decide_eq_false he2]
        refine G_ 200 hE ?_
        first | refine rz ?_ | refine ZD_ ?_
        refine sq_n ?_
        refine vT hE rfl (rfl) ?_
        refine vs ?_
        first | refine O_ ?_ | refine OD_ hm ?_
        refine G_ 200 hE ?_
        first | refine rz ?_ | refine ZD_ ?_
        refine sq_n ?_
        refine VC.weak ?_ (knilcs 6 18 2 (by exact rfl) (by exact rfl) (by exact rfl))
        refine wv_ (sos_ 6 18 970 0) ?_
        refine A_ ?_
        exact retct_ (h := by exact ma3_)
    · have hop := opdP_m (ak := q16 ak) (sec := sec) hr (by rw [hQs]; exact hmm)
      rw [hop] at h
      simp only [Prod.mk.injEq] at h
      obtain ⟨rfl, rfl, hz, rfl, rfl⟩ := h
      simp only [z16_q hz, Nat.reduceLT]
      rw [decide_eq_false hmm]
      refine G_ 200 hE ?_
      first | refine rz ?_ | refine ZD_ ?_
      refine sq_n ?_
      refine vT hE rfl (rfl) ?_
      refine vs ?_
      first | refine O_ ?_ | refine OD_ hm ?_
      refine G_ 200 hE ?_
      first | refine rz ?_ | refine ZD_ ?_
      refine sq_n ?_
      refine VC.weak ?_ (knilcs 6 18 2 (by exact rfl) (by exact rfl) (by exact rfl))
      refine wv_ (sos_ 6 18 970 0) ?_
      refine A_ ?_
      exact retct_ (h := by exact ma3_)
  · have hop := opdP_n (ak := q16 ak) (sec := sec) hr he
    rw [hop] at h
    simp only [Prod.mk.injEq] at h
    obtain ⟨rfl, rfl, hz, rfl, rfl⟩ := h
    simp only [z16_q hz, Nat.reduceLT]
    refine vs ?_
    first | refine O_ ?_ | refine OD_ hm ?_
    refine G_ 2 hE ?_
    rw [decide_eq_false he]
    refine G_ 200 hE ?_
    first | refine rz ?_ | refine ZD_ ?_
    refine sq_n ?_
    refine vT hE rfl (rfl) ?_
    refine vs ?_
    first | refine O_ ?_ | refine OD_ hm ?_
    refine G_ 200 hE ?_
    first | refine rz ?_ | refine ZD_ ?_
    refine sq_n ?_
    refine VC.weak ?_ (knilcs 6 18 2 (by exact rfl) (by exact rfl) (by exact rfl))
    refine wv_ (sos_ 6 18 970 0) ?_
    refine A_ ?_
    exact retct_ (h := by exact ma3_)
end Go.Proofs.YtocfhkmdkdjinaaDoor

/- radius: Find, Join. Printed by wp.py. -/
namespace Go.Proofs.YtocfhkmdkdjinaaDoor
open Go Go.RowKit
set_option linter.unusedVariables false
set_option linter.unusedSimpArgs false
set_option maxRecDepth 100000
set_option maxHeartbeats 4000000
attribute [local irreducible] inR VC RG VCn sq inS lq nq jq Wk
/-- The first value of a kind, and whether there is one; what attributes of EAP say. -/
def fnd (kind : Int) : List (Int × List UInt8) → List UInt8 × Bool
  | [] => ([], false)
  | a :: L => if a.1 = kind then (a.2, true) else fnd kind L
def joA : List (Int × List UInt8) → List UInt8
  | [] => []
  | a :: L => (if a.1 = 79 then a.2 else []) ++ joA L
theorem fnd_at (kind : Int) (L : List (Int × List UInt8)) {k : Nat} (h : k < L.length) : fnd kind (L.drop k) = if (L.getD k (0, [])).1 = kind then ((L.getD k (0, [])).2, true) else fnd kind (L.drop (k + 1)) := by
  rw [getD_at L h, List.drop_eq_getElem_cons h]
  rfl
theorem fnd_end (kind : Int) (L : List (Int × List UInt8)) (k : Nat) (h : L.length ≤ k) : fnd kind (L.drop k) = ([], false) := by
  rw [List.drop_of_length_le h]
  rfl
theorem joA_app : ∀ (L M : List (Int × List UInt8)), joA (L ++ M) = joA L ++ joA M
  | [], M => rfl
  | a :: L, M => by
    show _ ++ joA (L ++ M) = (_ ++ joA L) ++ joA M
    rw [joA_app L M, List.append_assoc]
theorem joA_succ (L : List (Int × List UInt8)) {k : Nat} (h : k < L.length) : joA (L.take (k + 1)) = joA (L.take k) ++ (if (L.getD k (0, [])).1 = 79 then (L.getD k (0, [])).2 else []) := by
  rw [getD_at L h, List.take_succ_eq_append_getElem h, joA_app]
  congr 1
  show _ ++ joA [] = _
  rw [show joA [] = [] from rfl, List.append_nil]
theorem joA_nil : joA [] = [] := rfl
attribute [local simp] joA_nil
attribute [local irreducible] fnd joA

namespace Ufind_fc
theorem U : type_of% (@drop_rep UInt8) ∧ type_of% (@drop_rep D) ∧ type_of% (@List.take_zero UInt8) ∧ type_of% (@List.take_zero D) ∧ type_of% @decI := ⟨(@drop_rep UInt8), (@drop_rep D), (@List.take_zero UInt8), (@List.take_zero D), @decI⟩
end Ufind_fc
open Ufind_fc
theorem find_fc (L : List (Int × List UInt8)) (kind : Int) (hL : L.length ≤ 1000000) (hb : ∀ a ∈ L, a.2.length ≤ 100000) : FC Tryd.prog GE 47 [.rof 2 L.length (fR L), .int .i64 kind] (.tup [.ownb (fnd kind L).1, .bool (fnd kind L).2]) none := by
  refine fi_ 22 [4, 5] ti_eq gpE Tryd.func47 (fun C hE hm hP hrc hrn => ?_)
  refine A_ ?_
  have hidx : fnd kind L = fnd kind (L.drop 0) := by rw [List.drop_zero]
  refine vl (fun k : Nat => ⟨[(0, .rof 2 L.length (fR L)), (1, .int .i64 kind), (8, .rof 2 L.length (fR L)), (9, .int .i64 L.length), (10, .int .i64 k), (4, .nilS), (5, .bool false)], [], []⟩) (fun k => k ≤ L.length ∧ fnd kind L = fnd kind (L.drop k)) (fun k => L.length - k) 0 ?_ ⟨Nat.zero_le _, hidx⟩ ?_
  · exact wk_ hrc
  rintro k ⟨hk, hi⟩
  by_cases hkl : k < L.length
  · have hat := fnd_at kind L hkl
    have hbk := hb _ (List.getElem_mem hkl)
    rw [← getD_at L hkl] at hbk
    obtain ⟨a, ha⟩ : ∃ a, a = L.getD k (0, []) := ⟨_, rfl⟩
    have hf0 : fR L k 0 = .int .i64 a.1 := by rw [ha]; rfl
    have hf1 : fR L k 1 = .rob a.2 := by rw [ha]; rfl
    have hm2 : List.map (fun i => fR L k i) (List.range 2) = [.int .i64 a.1, .rob a.2] := by
      show [fR L k 0, fR L k 1] = _
      rw [hf0, hf1]
    rw [← ha] at hat hbk
    refine A_ ?_
    refine C_ hE (fun hc2 => ?_) (fun hc2 => ?_) <;> (try (exfalso; omega))
    refine A_ ?_
    rw [hm2, show List.drop [D.int .i64 a.1, D.rob a.2].length [D.int .i64 0, D.nilS] = [] from rfl, ← ha]
    by_cases hkd : a.1 = kind
    · rw [hat, if_pos hkd] at hi
      rw [hi]
      refine C_ hE (fun hc3 => ?_) (fun hc3 => ?_) <;> (try (exfalso; omega))
      refine A_ ?_
      first | refine O_ ?_ | refine OD_ hm ?_
      refine G_ 2 hE ?_
      refine rc_ hE hP (clone_fc _ a.2 (by omega)) Tryd.func85 ?_
      refine G_ 200 hE ?_
      first | refine rz ?_ | refine ZD_ ?_
      refine A_ ?_
      exact ret_
    · rw [hat, if_neg hkd] at hi
      refine C_ hE (fun hc3 => ?_) (fun hc3 => ?_) <;> (try (exfalso; omega))
      refine A_ ?_
      refine lq_n (k + 1) ?_ ⟨by omega, hi⟩ (by omega)
      exact wk_ hrc
  · rw [fnd_end kind L k (by omega)] at hi
    rw [hi]
    repeat' (first | refine A1_ ?_ | refine C_ hE (fun hc => ?_) (fun hc => ?_) <;> (try (exfalso; omega)))
    exact ret_

theorem join_fc (L : List (Int × List UInt8)) (hL : L.length ≤ 1000000) (hb : (joA L).length ≤ 10000000000) : FC Tryd.prog GE 50 [.rof 2 L.length (fR L)] (.ownb (joA L)) none := by
  refine fi_ 21 [2] ti_eq gpE Tryd.func50 (fun C hE hm hP hrc hrn => ?_)
  refine A_ ?_
  refine VC.weak ?_ (kniln 3 960 1 (g := 1) (c := .bytes []) rfl rfl rfl)
  refine vl (fun a : Nat × Nat => ⟨[(6, .rof 2 L.length (fR L)), (7, .int .i64 L.length), (8, .int .i64 a.1), (3, .sl 960 (1 + a.2) 0 (joA (L.take a.1)).length), (2, .nilS)], [(960, ⟨⟨1 + a.2, 1, (joA (L.take a.1)).length⟩, some (.bytes (joA (L.take a.1)))⟩)], []⟩) (fun a => a.1 ≤ L.length) (fun a => L.length - a.1) (0, 0) ?_ (Nat.zero_le _) ?_
  · exact wk_ hrc
  rintro ⟨k, g⟩ hk
  simp only at hk ⊢
  by_cases hkl : k < L.length
  · have hsu := joA_succ L hkl
    have hle : (joA (L.take (k + 1))).length ≤ (joA L).length := by
      have := joA_app (L.take (k + 1)) (L.drop (k + 1))
      rw [List.take_append_drop] at this
      rw [this, List.length_append]
      omega
    obtain ⟨a, ha⟩ : ∃ a, a = L.getD k (0, []) := ⟨_, rfl⟩
    have hf0 : fR L k 0 = .int .i64 a.1 := by rw [ha]; rfl
    have hf1 : fR L k 1 = .rob a.2 := by rw [ha]; rfl
    have hm2 : List.map (fun i => fR L k i) (List.range 2) = [.int .i64 a.1, .rob a.2] := by
      show [fR L k 0, fR L k 1] = _
      rw [hf0, hf1]
    rw [← ha] at hsu
    rw [hsu] at hle
    obtain ⟨J, hJ⟩ : ∃ J, J = joA (L.take k) := ⟨_, rfl⟩
    rw [← hJ] at hsu hle ⊢
    refine A_ ?_
    refine C_ hE (fun hc2 => ?_) (fun hc2 => ?_) <;> (try (exfalso; omega))
    refine A_ ?_
    rw [hm2, show List.drop [D.int .i64 a.1, D.rob a.2].length [D.int .i64 0, D.nilS] = [] from rfl, ← ha]
    by_cases hkd : a.1 = 79
    · rw [if_pos hkd] at hsu hle
      rw [List.length_append] at hle
      refine C_ hE (fun hc3 => ?_) (fun hc3 => ?_) <;> (try (exfalso; omega))
      refine A_ ?_
      have hl3 : J.length + a.2.length = (joA (L.take (k + 1))).length := by rw [hsu, List.length_append]
      refine lq_n (k + 1, g + 1) ?_ (by simp only; omega) (by simp only; omega)
      simp only
      rw [hsu, List.length_append]
      exact wk_ hrc
    · rw [if_neg hkd, List.append_nil] at hsu
      refine C_ hE (fun hc3 => ?_) (fun hc3 => ?_) <;> (try (exfalso; omega))
      refine A_ ?_
      refine lq_n (k + 1, g) ?_ (by simp only; omega) (by simp only; omega)
      simp only
      rw [hsu]
      exact wk_ hrc
  · obtain rfl : k = L.length := by omega
    rw [List.take_length]
    repeat' (first | refine A1_ ?_ | refine C_ hE (fun hc => ?_) (fun hc => ?_) <;> (try (exfalso; omega)))
    exact ret_
end Go.Proofs.YtocfhkmdkdjinaaDoor
