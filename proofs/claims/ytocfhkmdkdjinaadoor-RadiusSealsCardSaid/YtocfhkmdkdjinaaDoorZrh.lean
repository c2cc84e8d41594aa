/- What the claim leans on, text Zrh: RadS, RadM, Ra20, Ra21, Ra22, Ra23. No condition beyond what each lemma states. -/
import Derived.Test.YtocfhkmdkdjinaaDoorZre
import Derived.Test.YtocfhkmdkdjinaaDoorZrf
import Derived.Test.YtocfhkmdkdjinaaDoorZd
import Derived.Test.YtocfhkmdkdjinaaDoorZt
import Derived.Test.YtocfhkmdkdjinaaDoorZrg

/- What is sealed is opened: the plain law. -/
namespace Go.Proofs.YtocfhkmdkdjinaaDoor
open Go Go.RowKit
set_option linter.unusedVariables false
set_option linter.unusedSimpArgs false
theorem idxF_none : ∀ (L : List (Int × List UInt8)) (k : Nat) (m : List UInt8), idxF L k = -1 → idxF (L ++ [(80, m)]) k = (k + L.length : Nat)
  | [], k, m, h => by simp [idxF]
  | a :: L, k, m, h => by
    unfold idxF at h
    split at h
    · omega
    · rename_i ha
      show idxF (a :: (L ++ [(80, m)])) k = _
      unfold idxF
      rw [if_neg ha, idxF_none L (k + 1) m h, List.length_cons]
      congr 1
      omega
theorem idxM_none {L : List (Int × List UInt8)} (m : List UInt8) (h : idxM L < 0) : idxM (L ++ [(80, m)]) = (L.length : Nat) := by
  rcases (idxM_lt L).2 with h2 | h2
  · unfold idxM at h2 ⊢
    rw [idxF_none L 0 m h2]
    simp
  · omega
theorem wrO_mark (c i : Int) (L : List (Int × List UInt8)) (m : List UInt8) (hm : m.length = 16) : wrO c i (L ++ [(80, m)]) = wrO c i (L ++ [(80, z16)]) := by
  unfold wrO
  rw [bodyA_snoc L m hm, bodyA_snoc L z16 z16_len]
  simp only [List.all_append, List.length_append, hm, z16_len]
  have e : ∀ v : List UInt8, v.length = 16 → okA (80, v) = true := fun v hv => by unfold okA; simp [hv]
  simp only [List.all_cons, List.all_nil, e m hm, e z16 z16_len]
theorem cutI_last (L : List (Int × List UInt8)) (x : Int × List UInt8) : cutI (L ++ [x]) L.length = L := by
  unfold cutI
  rw [List.take_left', List.drop_of_length_le (by simp), List.append_nil]
  rfl
/-- A packet with its mark opens to the packet. -/
theorem opA_seal (c i : Int) (au : List UInt8) (L : List (Int × List UInt8)) (sec : List UInt8) (h : idxM L < 0) (hw : wrO c i (L ++ [(80, z16)]) = true) : opA c i au (seL c i au L sec) sec = (c, i, au, L, 0) := by
  have hi := idxM_none (hmM sec (wrS c i au (L ++ [(80, z16)]))) h
  have hk : (idxM (seL c i au L sec)).toNat = L.length := by unfold seL; rw [hi, Int.toNat_natCast]
  have hg : (seL c i au L sec).getD L.length (0, []) = (80, hmM sec (wrS c i au (L ++ [(80, z16)]))) := by
    unfold seL
    rw [List.getD_eq_getElem?_getD, List.getElem?_append_right (Nat.le_refl _), Nat.sub_self]
    rfl
  have hv : mkV (seL c i au L sec) = hmM sec (wrS c i au (L ++ [(80, z16)])) := by unfold mkV; rw [hk, hg]
  have hz : mkZ (seL c i au L sec) = L ++ [(80, z16)] := by
    unfold mkZ
    rw [hk, hg]
    unfold seL
    rw [List.set_append_right _ _ (Nat.le_refl _), Nat.sub_self]
    rfl
  rw [opA_y ⟨by unfold seL; rw [hi]; omega, by rw [hv]; exact hmM_len _ _, by
    rw [hk]
    unfold seL
    rw [List.drop_of_length_le (by simp)]
    decide⟩ (by rw [hz]; exact hw) (by rw [hz, hv]), hk]
  congr 3
  unfold seL
  rw [cutI_last]
theorem q16_self {S : List UInt8} (h : S.length = 16) : q16 S = S := q16_of S h
theorem rdP_wr (c i : Int) (au : List UInt8) (L : List (Int × List UInt8)) (ha : au.length = 16) (h : wrO c i L = true) : rdP (wrS c i au L) = (c, i, au, L, 0) := by
  obtain ⟨h1, h2, h3, -, h5, -, h7⟩ := rd_wr c i au L ha h
  have e := d420 (wrS c i au L) (by omega)
  rw [rdP_some h1, h2, h3, ← e, h5]
theorem wrO_seL (c i : Int) (au : List UInt8) (L : List (Int × List UInt8)) (sec : List UInt8) (h : wrO c i (L ++ [(80, z16)]) = true) : wrO c i (seL c i au L sec) = true := by
  unfold seL
  rw [wrO_mark c i L _ (hmM_len _ _)]
  exact h
theorem opn_seal (i : Int) (au : List UInt8) (L : List (Int × List UInt8)) (sec : List UInt8) (ha : au.length = 16) (h : idxM L < 0) (hw : wrO 1 i (L ++ [(80, z16)]) = true) : opnP (wrS 1 i au (seL 1 i au L sec)) sec = (1, i, au, L, 0) := by
  have hr := rdP_wr 1 i au _ ha (wrO_seL 1 i au L sec hw)
  have ho : ofP (wrS 1 i au (seL 1 i au L sec)) true = (1, i, au, seL 1 i au L sec, 0) := by
    unfold ofP
    rw [hr]
    simp
  rw [opnP_y ho]
  exact opA_seal 1 i au L sec h hw
theorem wrS_parts (c i : Int) (au : List UInt8) (L : List (Int × List UInt8)) (S : List UInt8) (ha : au.length = 16) : (wrS c i au L).take 4 ++ S ++ (wrS c i au L).drop 20 = wrS c i S L := by
  rw [wrS_def2, wrS_def2 c i S]
  have e : ∀ (a b d f : UInt8) (B : List UInt8), (a :: b :: d :: f :: (au ++ B)).take 4 = [a, b, d, f] := by intros; rfl
  have e2 : ∀ (a b d f : UInt8) (B : List UInt8), (a :: b :: d :: f :: (au ++ B)).drop 20 = B := by
    intro a b d f B
    show (au ++ B).drop 16 = B
    rw [← ha, List.drop_left]
  rw [e, e2]
  simp
theorem opd_reply (c i : Int) (ak : List UInt8) (L : List (Int × List UInt8)) (sec S : List UInt8) (ha : ak.length = 16) (hc : ¬ c = 1) (h : idxM L < 0) (hw : wrO c i (L ++ [(80, z16)]) = true) (hS : S = md (wrS c i ak (seL c i ak L sec) ++ sec)) :
    opdP (wrS c i S (seL c i ak L sec)) ak sec = (c, i, S, L, 0) := by
  have hSl : S.length = 16 := by rw [hS, md_len]
  have hr := rdP_wr c i S _ hSl (wrO_seL c i ak L sec hw)
  have ho : ofP (wrS c i S (seL c i ak L sec)) false = (c, i, S, seL c i ak L sec, 0) := by
    unfold ofP
    rw [hr]
    simp [hc]
  have hm : opdS (wrS c i S (seL c i ak L sec)) ak sec = S := by
    have e := wrS_parts c i S (seL c i ak L sec) ak hSl
    unfold opdS
    rw [← List.append_assoc, ← List.append_assoc, e, hS]
  exact opdP_y ho hm (opA_seal c i ak L sec h hw)
end Go.Proofs.YtocfhkmdkdjinaaDoor

/- One Mark and its place: the reference's count and the program's search tell the same. Plain. -/
namespace Go.Proofs.YtocfhkmdkdjinaaDoor
open Go Go.RowKit
set_option linter.unusedVariables false
set_option linter.unusedSimpArgs false
/-- How many Marks there are. -/
def cnM (L : List (Int × List UInt8)) : Nat := L.countP (fun a => decide (a.1 = 80))
theorem cnM_cons (a : Int × List UInt8) (L : List (Int × List UInt8)) : cnM (a :: L) = cnM L + if a.1 = 80 then 1 else 0 := by
  unfold cnM
  rw [List.countP_cons]
  simp
theorem mkN_cn (L : List (Int × List UInt8)) : ∀ k, k ≤ L.length → mkN L k = cnM (L.take k)
  | 0, _ => rfl
  | k + 1, h => by
    have hk : k < L.length := h
    have e : cnM (L.take (k + 1)) = cnM (L.take k) + if (L.getD k (0, [])).1 = 80 then 1 else 0 := by
      rw [getD_at L hk, List.take_succ_eq_append_getElem hk]
      unfold cnM
      rw [List.countP_append, List.countP_singleton]
      simp
    rw [e]
    unfold mkN
    rw [mkN_cn L k (by omega)]
    split <;> simp
theorem mkN_all (L : List (Int × List UInt8)) : mkN L L.length = cnM L := by rw [mkN_cn L _ (Nat.le_refl _), List.take_length]
theorem idxF_cn : ∀ (L : List (Int × List UInt8)) (k : Nat), (idxF L k = -1 ∧ cnM L = 0) ∨ ∃ j : Nat, idxF L k = (k + j : Nat) ∧ j < L.length ∧ (L.getD j (0, [])).1 = 80 ∧ cnM L = 1 + cnM (L.drop (j + 1))
  | [], k => .inl ⟨rfl, rfl⟩
  | a :: L, k => by
    unfold idxF
    rw [cnM_cons]
    by_cases h : a.1 = 80
    · rw [if_pos h, if_pos h]
      exact .inr ⟨0, rfl, by simp, h, by simp [Nat.add_comm]⟩
    · rw [if_neg h, if_neg h]
      rcases idxF_cn L (k + 1) with ⟨h1, h2⟩ | ⟨j, h1, h2, h3, h4⟩
      · exact .inl ⟨h1, h2⟩
      · exact .inr ⟨j + 1, by rw [h1]; congr 1; omega, by simp; omega, h3, h4⟩
theorem cnM_0 {L : List (Int × List UInt8)} (h : cnM L = 0) {k : Nat} (hk : k < L.length) : ¬ (L.getD k (0, [])).1 = 80 := by
  rw [getD_at L hk]
  unfold cnM at h
  rw [List.countP_eq_zero] at h
  simpa using h _ (List.getElem_mem hk)
theorem mkL_at (L : List (Int × List UInt8)) {j : Nat} (h : (L.getD j (0, [])).1 = 80) (hc : cnM (L.drop (j + 1)) = 0) : ∀ k, j < k → k ≤ L.length → mkL L k = j
  | 0, h1, _ => absurd h1 (by omega)
  | k + 1, h1, h2 => by
    unfold mkL
    by_cases hj : j = k
    · subst hj
      rw [if_pos h]
    · have hn := cnM_0 hc (k := k - (j + 1)) (by rw [List.length_drop]; omega)
      rw [List.getD_eq_getElem?_getD, List.getElem?_drop, show j + 1 + (k - (j + 1)) = k by omega, ← List.getD_eq_getElem?_getD] at hn
      rw [if_neg hn]
      exact mkL_at L h hc k (by omega) (by omega)
/-- There is one Mark, and it is there. -/
theorem mk_one (L : List (Int × List UInt8)) : (0 ≤ idxM L ∧ idxM (L.drop ((idxM L).toNat + 1)) < 0) ↔ mkN L L.length = 1 := by
  rw [mkN_all]
  unfold idxM
  rcases idxF_cn L 0 with ⟨h1, h2⟩ | ⟨j, h1, h2, h3, h4⟩
  · rw [h1, h2]; simp
  · rw [h1, h4]
    rw [show (((0 + j : Nat) : Int)).toNat = j by omega]
    rcases idxF_cn (L.drop (j + 1)) 0 with ⟨g1, g2⟩ | ⟨i, g1, g2, g3, g4⟩
    · rw [g1, g2]; simp
    · rw [g1, g4]; simp
theorem mk_zero (L : List (Int × List UInt8)) : idxM L < 0 ↔ mkN L L.length = 0 := by
  rw [mkN_all]
  unfold idxM
  rcases idxF_cn L 0 with ⟨h1, h2⟩ | ⟨j, h1, h2, h3, h4⟩
  · rw [h1, h2]; simp
  · rw [h1, h4]; simp
theorem mk_at (L : List (Int × List UInt8)) (h : mkN L L.length = 1) : mkL L L.length = idxM L ∧ (L.getD (idxM L).toNat (0, [])).1 = 80 ∧ (idxM L).toNat < L.length := by
  rw [mkN_all] at h
  unfold idxM
  rcases idxF_cn L 0 with ⟨h1, h2⟩ | ⟨j, h1, h2, h3, h4⟩
  · omega
  · rw [h1, show (((0 + j : Nat) : Int)).toNat = j by omega]
    refine ⟨?_, h3, h2⟩
    rw [mkL_at L h3 (by omega) _ h2 (Nat.le_refl _)]
    simp
theorem set_split (L : List (Int × List UInt8)) {k : Nat} (h : k < L.length) (x : Int × List UInt8) : L.set k x = L.take k ++ ([x] ++ L.drop (k + 1)) := by
  rw [List.set_eq_take_append_cons_drop, if_pos h]
  rfl
theorem list_split (L : List (Int × List UInt8)) {k : Nat} (h : k < L.length) : L = L.take k ++ ([L.getD k (0, [])] ++ L.drop (k + 1)) := by
  have e := set_split L h (L.getD k (0, []))
  rw [← e, getD_at L h, List.set_getElem_self]
theorem wrO_set (c i : Int) (L : List (Int × List UInt8)) {k : Nat} (h : k < L.length) (v : List UInt8) (hv : v.length = 16) (hk : (L.getD k (0, [])).2.length = 16) (hw : wrO c i L = true) : wrO c i (L.set k (80, v)) = true := by
  obtain ⟨h1, h2, h3, h4, h5⟩ := (wrO_iff _ _ _).1 hw
  rw [list_split L h] at h4 h5
  rw [set_split L h]
  have hx : okA (80, v) = true := (okA_iff _).2 ⟨by simp, by simp, by simp [hv]⟩
  simp only [List.all_append, Bool.and_eq_true, List.all_cons, List.all_nil] at h4
  simp only [bodyA_app, bodyA_one, enA_len, List.length_append, hk] at h5
  refine (wrO_iff _ _ _).2 ⟨h1, h2, h3, ?_, ?_⟩
  · simp only [List.all_append, Bool.and_eq_true, List.all_cons, List.all_nil]
    exact ⟨h4.1, ⟨hx, trivial⟩, h4.2.2⟩
  · simp only [bodyA_app, bodyA_one, enA_len, List.length_append, hv]
    exact h5
theorem rdP_wrO {l : List UInt8} {c i : Int} {au : List UInt8} {L : List (Int × List UInt8)} (h : rdP l = (c, i, au, L, 0)) : wrO c i L = true := by
  rcases hr : rdS l with _ | M
  · rw [rdP_none hr] at h; simp at h
  · rw [rdP_some hr] at h
    simp only [Prod.mk.injEq] at h
    obtain ⟨rfl, rfl, -, rfl, -⟩ := h
    exact (wr_rd l M hr).1
/-- Of a packet that can be written: the reference's opening. -/
theorem opA_ref (c i : Int) (au : List UInt8) (L : List (Int × List UInt8)) (sec : List UInt8) (h : mkN L L.length = 1) (hv : (L.getD (mkL L L.length).toNat (0, [])).2.length = 16) (hw : wrO c i L = true) :
    opA c i au L sec = if hmM sec (wrS c i au (L.set (mkL L L.length).toNat (80, z16))) = (L.getD (mkL L L.length).toNat (0, [])).2 then (c, i, au, cutI L (mkL L L.length).toNat, 0) else (0, 0, z16, [], 5) := by
  obtain ⟨h1, h2, h3⟩ := mk_at L h
  rw [h1] at hv ⊢
  have hm := (mk_one L).2 h
  have hz : mkZ L = L.set (idxM L).toNat (80, z16) := by unfold mkZ; rw [h2]
  have hg : mkV L = (L.getD (idxM L).toNat (0, [])).2 := rfl
  have ha : 0 ≤ idxM L ∧ (mkV L).length = 16 ∧ idxM (L.drop ((idxM L).toNat + 1)) < 0 := ⟨hm.1, hv, hm.2⟩
  have hwz : wrO c i (mkZ L) = true := by rw [hz]; exact wrO_set c i L h3 z16 z16_len hv hw
  by_cases he : hmM sec (wrS c i au (mkZ L)) = mkV L
  · rw [opA_y ha hwz he]
    rw [hz, hg] at he
    rw [if_pos he]
  · rw [opA_n ha hwz he]
    rw [hz, hg] at he
    rw [if_neg he]
theorem opA_ref0 (c i : Int) (au : List UInt8) (L : List (Int × List UInt8)) (sec : List UInt8) (h : ¬ (mkN L L.length = 1 ∧ (L.getD (mkL L L.length).toNat (0, [])).2.length = 16)) : opA c i au L sec = (0, 0, z16, [], 5) := by
  refine opA_no fun ha => h ?_
  have h1 := (mk_one L).1 ⟨ha.1, ha.2.2⟩
  refine ⟨h1, ?_⟩
  rw [(mk_at L h1).1]
  exact ha.2.1
end Go.Proofs.YtocfhkmdkdjinaaDoor

/- The reference of layer 19: with. Printed by wp.py. -/
namespace Go.Proofs.YtocfhkmdkdjinaaDoor
open Go Go.RowKit
set_option linter.unusedVariables false
set_option linter.unusedSimpArgs false
set_option maxRecDepth 100000
set_option maxHeartbeats 4000000
attribute [local irreducible] inR VC RG VCn sq inS lq nq jq Wk
attribute [local simp] nmL_atS atS_fr atS_nil
/-- A list with a Mark at a place, or behind its end. -/
def wtA (L : List (Int × List UInt8)) (k : Nat) (v : List UInt8) : List (Int × List UInt8) := if k = L.length then L ++ [(80, v)] else L.set k (80, v)
theorem wtA_end (L : List (Int × List UInt8)) (v : List UInt8) : wtA L L.length v = L ++ [(80, v)] := if_pos rfl
theorem wtA_in {L : List (Int × List UInt8)} {k : Nat} (h : ¬ k = L.length) (v : List UInt8) : wtA L k v = L.set k (80, v) := if_neg h
theorem atS_set2 (L : List (Int × List UInt8)) (k : Nat) (h : k < L.length) (v : List UInt8) : List.take (k * 2) (atS L) ++ [D.int .i64 80, D.str v] ++ List.drop (k * 2 + 2) (atS L) = atS (L.set k (80, v)) := by
  have e := list_split L h
  have ht : atS (L.take k) = (atS L).take (k * 2) := by
    conv => rhs; rw [← List.take_append_drop k L, ← atS_app]
    rw [List.take_left' (by rw [atS_len, List.length_take]; omega)]
  have hd : atS (L.drop (k + 1)) = (atS L).drop (k * 2 + 2) := by
    conv => rhs; rw [← List.take_append_drop (k + 1) L, ← atS_app]
    rw [List.drop_left' (by rw [atS_len, List.length_take]; omega)]
  rw [set_split L h, ← ht, ← hd, ← atS_app, ← atS_app, List.append_assoc]
  rfl

namespace Uwith_fc
theorem U : type_of% (@drop_rep UInt8) ∧ type_of% (@drop_rep D) ∧ type_of% (@List.take_zero UInt8) ∧ type_of% (@List.take_zero D) ∧ type_of% @q16_take ∧ type_of% @q16_len ∧ type_of% @q16_fold ∧ type_of% @q16_map ∧ type_of% @decL ∧ type_of% @decI ∧ type_of% @atS_len ∧ type_of% @atS_sc := ⟨(@drop_rep UInt8), (@drop_rep D), (@List.take_zero UInt8), (@List.take_zero D), @q16_take, @q16_len, @q16_fold, @q16_map, @decL, @decI, @atS_len, @atS_sc⟩
end Uwith_fc
open Uwith_fc
theorem with_fc (c i : Int) (au v : List UInt8) (L : List (Int × List UInt8)) (k : Nat) (hk : k ≤ L.length) (hL : L.length ≤ 1000000) : FC Tryd.prog GE 110 [.agg [.int .i64 c, .int .i64 i, .u8 (gb au 0), .u8 (gb au 1), .u8 (gb au 2), .u8 (gb au 3), .u8 (gb au 4), .u8 (gb au 5), .u8 (gb au 6), .u8 (gb au 7), .u8 (gb au 8), .u8 (gb au 9), .u8 (gb au 10), .u8 (gb au 11), .u8 (gb au 12), .u8 (gb au 13), .u8 (gb au 14), .u8 (gb au 15), .rof 2 L.length (fS L)], .int .i64 k, .str v] (.agg [.int .i64 c, .int .i64 i, .u8 (gb au 0), .u8 (gb au 1), .u8 (gb au 2), .u8 (gb au 3), .u8 (gb au 4), .u8 (gb au 5), .u8 (gb au 6), .u8 (gb au 7), .u8 (gb au 8), .u8 (gb au 9), .u8 (gb au 10), .u8 (gb au 11), .u8 (gb au 12), .u8 (gb au 13), .u8 (gb au 14), .u8 (gb au 15), .owns 2 (wtA L k v).length (atS (wtA L k v))]) none := by
  refine fic_ 28 ti_eq gpE Tryd.func110 (fun C hE hm hP hrc hrn => ?_)
  refine A_ ?_
  first | refine O_ ?_ | refine OD_ hm ?_
  refine G_ 3 hE ?_
  refine AOC_ hE cvS ?_
  refine G_ 200 hE ?_
  first | refine rz ?_ | refine ZD_ ?_
  refine A_ ?_
  by_cases hkl : k = L.length
  · subst hkl
    rw [wtA_end]
    refine C_ hE (fun hc => ?_) (fun hc => ?_) <;> (try (exfalso; omega))
    first | refine O_ ?_ | refine OD_ hm ?_
    refine G_ 3 hE ?_
    refine AO_ hE ?_
    refine G_ 200 hE ?_
    first | refine rz ?_ | refine ZD_ ?_
    obtain ⟨M, hM⟩ : ∃ M, M = L ++ [((0 : Int), ([] : List UInt8))] := ⟨_, rfl⟩
    have hMl : M.length = L.length + 1 := by rw [hM]; simp
    have hMs : M.set L.length (80, v) = L ++ [(80, v)] := by rw [hM, List.set_append_right _ _ (Nat.le_refl _), Nat.sub_self]; rfl
    have hM2 : (M.set L.length (80, v)).length = L.length + 1 := by rw [List.length_set, hMl]
    have hat := atS_set2 M L.length (by omega) v
    rw [atS_snoc, ← hM]
    refine A_ ?_
    rw [hat, ← hM2, hMs]
    exact retc_ (h := by exact ma3_)
  · rw [wtA_in hkl]
    have hM2 : (L.set k (80, v)).length = L.length := List.length_set
    have hat := atS_set2 L k (by omega) v
    obtain ⟨M, hM⟩ : ∃ M, M = L.set k (80, v) := ⟨_, rfl⟩
    rw [← hM] at hM2 hat ⊢
    refine C_ hE (fun hc => ?_) (fun hc => ?_) <;> (try (exfalso; omega))
    refine A_ ?_
    rw [hat, ← hM2]
    exact retc_ (h := by exact ma3_)
end Go.Proofs.YtocfhkmdkdjinaaDoor

/- The reference of layer 19: seal, Seal, Reply. Printed by wp.py. -/
namespace Go.Proofs.YtocfhkmdkdjinaaDoor
open Go Go.RowKit
set_option linter.unusedVariables false
set_option linter.unusedSimpArgs false
set_option maxRecDepth 100000
set_option maxHeartbeats 4000000
attribute [local irreducible] inR VC RG VCn sq inS lq nq jq Wk
attribute [local simp] nmL_atS atS_fr atS_nil
theorem rzero16_fc : FC Tryd.prog GE 111 [] (.str z16) none := rzero_fc
theorem with_end (c i : Int) (au v : List UInt8) (L : List (Int × List UInt8)) (hL : L.length ≤ 1000000) : FC Tryd.prog GE 110 [.agg [.int .i64 c, .int .i64 i, .u8 (gb au 0), .u8 (gb au 1), .u8 (gb au 2), .u8 (gb au 3), .u8 (gb au 4), .u8 (gb au 5), .u8 (gb au 6), .u8 (gb au 7), .u8 (gb au 8), .u8 (gb au 9), .u8 (gb au 10), .u8 (gb au 11), .u8 (gb au 12), .u8 (gb au 13), .u8 (gb au 14), .u8 (gb au 15), .rof 2 L.length (fS L)], .int .i64 L.length, .str v] (.agg [.int .i64 c, .int .i64 i, .u8 (gb au 0), .u8 (gb au 1), .u8 (gb au 2), .u8 (gb au 3), .u8 (gb au 4), .u8 (gb au 5), .u8 (gb au 6), .u8 (gb au 7), .u8 (gb au 8), .u8 (gb au 9), .u8 (gb au 10), .u8 (gb au 11), .u8 (gb au 12), .u8 (gb au 13), .u8 (gb au 14), .u8 (gb au 15), .owns 2 (L ++ [(80, v)]).length (atS (L ++ [(80, v)]))]) none := by
  have h := with_fc c i au v L L.length (Nat.le_refl _) hL
  rw [wtA_end] at h
  exact h
theorem rwrite_y (c i : Int) (au : List UInt8) (L : List (Int × List UInt8)) (hL : L.length ≤ 1000000) (h : wrO c i L = true) : FC Tryd.prog GE 32 [.agg [.int .i64 c, .int .i64 i, .u8 (gb au 0), .u8 (gb au 1), .u8 (gb au 2), .u8 (gb au 3), .u8 (gb au 4), .u8 (gb au 5), .u8 (gb au 6), .u8 (gb au 7), .u8 (gb au 8), .u8 (gb au 9), .u8 (gb au 10), .u8 (gb au 11), .u8 (gb au 12), .u8 (gb au 13), .u8 (gb au 14), .u8 (gb au 15), .rof 2 L.length (fS L)]] (.tup [.str (wrS c i (q16 au) L), .int .i64 0]) none := by
  have h2 := rwrite_fc c i au L hL
  rw [wrV_yes h] at h2
  exact h2
theorem rwrite_n (c i : Int) (au : List UInt8) (L : List (Int × List UInt8)) (hL : L.length ≤ 1000000) (h : wrO c i L = false) : FC Tryd.prog GE 32 [.agg [.int .i64 c, .int .i64 i, .u8 (gb au 0), .u8 (gb au 1), .u8 (gb au 2), .u8 (gb au 3), .u8 (gb au 4), .u8 (gb au 5), .u8 (gb au 6), .u8 (gb au 7), .u8 (gb au 8), .u8 (gb au 9), .u8 (gb au 10), .u8 (gb au 11), .u8 (gb au 12), .u8 (gb au 13), .u8 (gb au 14), .u8 (gb au 15), .rof 2 L.length (fS L)]] (.tup [.str [], .int .i64 2]) none := by
  have h2 := rwrite_fc c i au L hL
  rw [wrV_no h] at h2
  exact h2
theorem wrS_le {c i : Int} {L : List (Int × List UInt8)} (au : List UInt8) (ha : au.length = 16) (h : wrO c i L = true) : (wrS c i au L).length ≤ 4096 := by
  rw [wrS_len, ha]
  have := ((wrO_iff _ _ _).1 h).2.2.2.2
  omega
theorem seL_def (c i : Int) (au : List UInt8) (L : List (Int × List UInt8)) (sec : List UInt8) : seL c i au L sec = L ++ [(80, hmM sec (wrS c i au (L ++ [(80, z16)])))] := rfl
theorem mkN_pos (L : List (Int × List UInt8)) : (mkN L L.length : Int) > 0 ↔ 0 ≤ idxM L := by
  have := mk_zero L
  omega
attribute [local irreducible] bodyA wrS wrO idxF idxM z16 seV slV rpV rdO rdS prs rdP prC mkN mkL wrV seL

namespace Urseal_fc
theorem U : type_of% (@drop_rep UInt8) ∧ type_of% (@drop_rep D) ∧ type_of% (@List.take_zero UInt8) ∧ type_of% (@List.take_zero D) ∧ type_of% @q16_take ∧ type_of% @q16_len ∧ type_of% @q16_fold ∧ type_of% @q16_map ∧ type_of% @decL ∧ type_of% @decI ∧ type_of% @atS_len ∧ type_of% @md_len ∧ type_of% @md_take ∧ type_of% @hmM_len ∧ type_of% @hmM_take := ⟨(@drop_rep UInt8), (@drop_rep D), (@List.take_zero UInt8), (@List.take_zero D), @q16_take, @q16_len, @q16_fold, @q16_map, @decL, @decI, @atS_len, @md_len, @md_take, @hmM_len, @hmM_take⟩
end Urseal_fc
open Urseal_fc
theorem rseal_fc (c i : Int) (au : List UInt8) (L : List (Int × List UInt8)) (sec : List UInt8) (hL : L.length ≤ 100000) (hs : sec.length ≤ 100000) : FC Tryd.prog GE 89 [.agg [.int .i64 c, .int .i64 i, .u8 (gb au 0), .u8 (gb au 1), .u8 (gb au 2), .u8 (gb au 3), .u8 (gb au 4), .u8 (gb au 5), .u8 (gb au 6), .u8 (gb au 7), .u8 (gb au 8), .u8 (gb au 9), .u8 (gb au 10), .u8 (gb au 11), .u8 (gb au 12), .u8 (gb au 13), .u8 (gb au 14), .u8 (gb au 15), .rof 2 L.length (fS L)], .str sec] (.tup [.str (seV c i (q16 au) L sec).1, .int .i64 (seV c i (q16 au) L sec).2]) none := by
  refine fi_ 32 [4, 5] ti_eq gpE Tryd.func89 (fun C hE hm hP hrc hrn => ?_)
  refine vs ?_
  refine R_ hE ?_
  refine sq_n ?_
  refine vs ?_
  cases hw : wrO c i (L ++ [(80, z16)])
  · rw [seV_no hw]
    first | refine O_ ?_ | refine OD_ hm ?_
    refine G_ 4 hE ?_
    refine rc_ hE hP (rzero16_fc) Tryd.func111 ?_
    refine rc_ hE hP (with_end c i au z16 L (by omega)) Tryd.func110 ?_ (hm := by exact ma2_) (hnr := by exact nrt2_) (had := by exact adt2_)
    refine rc_ hE hP (rwrite_n c i au (L ++ [(80, z16)]) (by simp; omega) hw) Tryd.func32 ?_ (hm := by exact ma2_) (hnr := by exact nrt2_) (had := by exact adt2_)
    refine G_ 200 hE ?_
    first | refine rz ?_ | refine ZD_ ?_
    refine A_ ?_
    exact ret_
  · rw [seV_yes hw, seL_def]
    have hw2 := wrO_seL c i (q16 au) L sec hw
    rw [seL_def] at hw2
    have hle := wrS_le (q16 au) (q16_len au) hw
    obtain ⟨B, hB⟩ : ∃ B, B = wrS c i (q16 au) (L ++ [(80, z16)]) := ⟨_, rfl⟩
    have wy := rwrite_y c i au (L ++ [(80, z16)]) (by simp; omega) hw
    rw [← hB] at wy hle hw2 ⊢
    first | refine O_ ?_ | refine OD_ hm ?_
    refine G_ 4 hE ?_
    refine rc_ hE hP (rzero16_fc) Tryd.func111 ?_
    refine rc_ hE hP (with_end c i au z16 L (by omega)) Tryd.func110 ?_ (hm := by exact ma2_) (hnr := by exact nrt2_) (had := by exact adt2_)
    refine rc_ hE hP (wy) Tryd.func32 ?_ (hm := by exact ma2_) (hnr := by exact nrt2_) (had := by exact adt2_)
    refine G_ 200 hE ?_
    first | refine rz ?_ | refine ZD_ ?_
    refine A_ ?_
    first | refine O_ ?_ | refine OD_ hm ?_
    refine G_ 6 hE ?_
    refine rc_ hE hP (roMac_fc sec B (by omega) (by omega)) Tryd.func112 ?_
    refine rc_ hE hP (with_end c i au (hmM sec B) L (by omega)) Tryd.func110 ?_ (hm := by exact ma2_) (hnr := by exact nrt2_) (had := by exact adt2_)
    refine rc_ hE hP (rwrite_y c i au (L ++ [(80, hmM sec B)]) (by simp; omega) hw2) Tryd.func32 ?_ (hm := by exact ma2_) (hnr := by exact nrt2_) (had := by exact adt2_)
    refine G_ 200 hE ?_
    first | refine rz ?_ | refine ZD_ ?_
    refine A_ ?_
    exact ret_
theorem rSeal_fc (c i : Int) (au : List UInt8) (L : List (Int × List UInt8)) (sec : List UInt8) (hL : L.length ≤ 100000) (hs : sec.length ≤ 100000) : FC Tryd.prog GE 42 [.agg [.int .i64 c, .int .i64 i, .u8 (gb au 0), .u8 (gb au 1), .u8 (gb au 2), .u8 (gb au 3), .u8 (gb au 4), .u8 (gb au 5), .u8 (gb au 6), .u8 (gb au 7), .u8 (gb au 8), .u8 (gb au 9), .u8 (gb au 10), .u8 (gb au 11), .u8 (gb au 12), .u8 (gb au 13), .u8 (gb au 14), .u8 (gb au 15), .rof 2 L.length (fS L)], .str sec] (.tup [.str (slV c i (q16 au) L sec).1, .int .i64 (slV c i (q16 au) L sec).2]) none := by
  refine fi_ 25 [4, 5] ti_eq gpE Tryd.func42 (fun C hE hm hP hrc hrn => ?_)
  have hmp := mkN_pos L
  refine vs ?_
  refine R_ hE ?_
  refine sq_n ?_
  refine vs ?_
  refine vs ?_
  first | refine O_ ?_ | refine OD_ hm ?_
  refine G_ 1 hE ?_
  refine rc_ hE hP (marks_fc c i au L (by omega)) Tryd.func88 ?_ (hm := by exact ma2_) (hnr := by exact nrt2_) (had := by exact adt2_)
  refine G_ 200 hE ?_
  first | refine rz ?_ | refine ZD_ ?_
  refine sq_n ?_
  refine vs ?_
  by_cases hc : c = 1
  · first | refine O_ ?_ | refine OD_ hm ?_
    refine G_ 3 hE ?_
    rw [decide_eq_true hc, Bool.not_true]
    refine G_ 1 hE ?_
    refine GT_ hE (rfl) ?_
    refine GT_ hE (rfl) ?_
    by_cases hmk : 0 ≤ idxM L
    · rw [slV_m hmk, decide_eq_true (hmp.2 hmk)]
      refine G_ 200 hE ?_
      first | refine rz ?_ | refine ZD_ ?_
      refine A_ ?_
      exact ret_
    · rw [slV_yes hc hmk, decide_eq_false (mt hmp.1 hmk)]
      refine G_ 200 hE ?_
      first | refine rz ?_ | refine ZD_ ?_
      refine A_ ?_
      first | refine O_ ?_ | refine OD_ hm ?_
      refine G_ 2 hE ?_
      refine rc_ hE hP (rseal_fc c i au L sec hL hs) Tryd.func89 ?_ (hm := by exact ma2_) (hnr := by exact nrt2_) (had := by exact adt2_)
      refine G_ 200 hE ?_
      first | refine rz ?_ | refine ZD_ ?_
      refine A_ ?_
      exact ret_
  · rw [slV_c hc]
    first | refine O_ ?_ | refine OD_ hm ?_
    refine G_ 3 hE ?_
    rw [decide_eq_false hc, Bool.not_false]
    refine G_ 1 hE ?_
    refine GF_ hE (rfl) ?_
    refine GI_ (.bool true) hE (rfl) ?_
    refine G_ 200 hE ?_
    first | refine rz ?_ | refine ZD_ ?_
    refine A_ ?_
    exact ret_
theorem rReply_fc (c i : Int) (au ak : List UInt8) (L : List (Int × List UInt8)) (sec : List UInt8) (hL : L.length ≤ 100000) (hs : sec.length ≤ 100000) : FC Tryd.prog GE 43 [.agg [.int .i64 c, .int .i64 i, .u8 (gb au 0), .u8 (gb au 1), .u8 (gb au 2), .u8 (gb au 3), .u8 (gb au 4), .u8 (gb au 5), .u8 (gb au 6), .u8 (gb au 7), .u8 (gb au 8), .u8 (gb au 9), .u8 (gb au 10), .u8 (gb au 11), .u8 (gb au 12), .u8 (gb au 13), .u8 (gb au 14), .u8 (gb au 15), .rof 2 L.length (fS L)], (.aggb (q16 ak)), .str sec] (.tup [.str (rpV c i (q16 ak) L sec).1, .int .i64 (rpV c i (q16 ak) L sec).2]) none := by
  refine fi_ 45 [6, 7] ti_eq gpE Tryd.func43 (fun C hE hm hP hrc hrn => ?_)
  have hmp := mkN_pos L
  refine vs ?_
  refine R_ hE ?_
  refine sq_n ?_
  refine vs ?_
  refine vs ?_
  first | refine O_ ?_ | refine OD_ hm ?_
  refine G_ 1 hE ?_
  refine rc_ hE hP (marks_fc c i au L (by omega)) Tryd.func88 ?_ (hm := by exact ma2_) (hnr := by exact nrt2_) (had := by exact adt2_)
  refine G_ 200 hE ?_
  first | refine rz ?_ | refine ZD_ ?_
  refine sq_n ?_
  refine vs ?_
  by_cases hc : c = 1
  · rw [rpV_c hc]
    first | refine O_ ?_ | refine OD_ hm ?_
    refine G_ 3 hE ?_
    rw [decide_eq_true hc]
    refine G_ 1 hE ?_
    refine GF_ hE (rfl) ?_
    refine GI_ (.bool true) hE (rfl) ?_
    refine G_ 200 hE ?_
    first | refine rz ?_ | refine ZD_ ?_
    refine A_ ?_
    exact ret_
  · first | refine O_ ?_ | refine OD_ hm ?_
    refine G_ 3 hE ?_
    rw [decide_eq_false hc]
    refine G_ 1 hE ?_
    refine GT_ hE (rfl) ?_
    refine GT_ hE (rfl) ?_
    by_cases hmk : 0 ≤ idxM L
    · rw [rpV_m hmk, decide_eq_true (hmp.2 hmk)]
      refine G_ 200 hE ?_
      first | refine rz ?_ | refine ZD_ ?_
      refine A_ ?_
      exact ret_
    · rw [decide_eq_false (mt hmp.1 hmk)]
      have hse := seV_le c i (q16 ak) sec L (q16_len ak)
      refine G_ 200 hE ?_
      first | refine rz ?_ | refine ZD_ ?_
      refine A_ ?_
      first | refine O_ ?_ | refine OD_ hm ?_
      refine G_ 2 hE ?_
      refine rc_ hE hP (rseal_fc c i ak L sec hL hs) Tryd.func89 ?_ (hm := by exact ma2_) (hnr := by exact nrt2_) (had := by exact adt2_)
      obtain ⟨⟨B, e⟩, hBe⟩ : ∃ B, B = seV c i (q16 ak) L sec := ⟨_, rfl⟩
      rw [← hBe] at hse
      simp only at hse
      by_cases he0 : e = 0
      · have hrp := rpV_y hc hmk (by rw [← hBe]; exact he0)
        rw [← hBe] at hrp
        subst he0
        rw [hrp, ← hBe]
        obtain ⟨h1, h2, -⟩ := hse
        have h2 := h2 rfl
        refine G_ 200 hE ?_
        first | refine rz ?_ | refine ZD_ ?_
        refine A_ ?_
        first | refine O_ ?_ | refine OD_ hm ?_
        refine G_ 5 hE ?_
        refine rc_ hE hP (rMd_fc (B ++ sec) (by simp; omega)) Tryd.func87 ?_
        refine G_ 200 hE ?_
        first | refine rz ?_ | refine ZD_ ?_
        refine A_ ?_
        exact ret_
      · have hrp := rpV_e hc hmk (by rw [← hBe]; exact he0)
        rw [← hBe] at hrp
        rw [hrp, ← hBe]
        refine G_ 200 hE ?_
        first | refine rz ?_ | refine ZD_ ?_
        repeat' (first | refine A1_ ?_ | refine C_ hE (fun hc => ?_) (fun hc => ?_) <;> (try (exfalso; omega)))
        exact ret_
end Go.Proofs.YtocfhkmdkdjinaaDoor

/- The reference of layer 19: open. Printed by wp.py. -/
namespace Go.Proofs.YtocfhkmdkdjinaaDoor
open Go Go.RowKit
set_option linter.unusedVariables false
set_option linter.unusedSimpArgs false
set_option maxRecDepth 100000
set_option maxHeartbeats 4000000
attribute [local irreducible] inR VC RG VCn sq inS lq nq jq Wk
attribute [local simp] nmL_atS atS_fr atS_nil
theorem cutI_def (L : List (Int × List UInt8)) (k : Nat) : L.take k ++ L.drop (k + 1) = cutI L k := rfl
attribute [local irreducible] bodyA wrS wrO idxF idxM z16 seV slV rpV rdO rdS prs rdP prC mkN mkL wrV seL cutI opA

namespace Uropen_fc
theorem U : type_of% (@drop_rep UInt8) ∧ type_of% (@drop_rep D) ∧ type_of% (@List.take_zero UInt8) ∧ type_of% (@List.take_zero D) ∧ type_of% @q16_take ∧ type_of% @q16_len ∧ type_of% @q16_fold ∧ type_of% @q16_map ∧ type_of% @decL ∧ type_of% @decI ∧ type_of% @atS_len ∧ type_of% @atS_sc ∧ type_of% @md_len ∧ type_of% @md_take ∧ type_of% @hmM_len ∧ type_of% @hmM_take := ⟨(@drop_rep UInt8), (@drop_rep D), (@List.take_zero UInt8), (@List.take_zero D), @q16_take, @q16_len, @q16_fold, @q16_map, @decL, @decI, @atS_len, @atS_sc, @md_len, @md_take, @hmM_len, @hmM_take⟩
end Uropen_fc
open Uropen_fc
theorem ropen_fc (c i : Int) (au : List UInt8) (L : List (Int × List UInt8)) (sec : List UInt8) (c' i' : Int) (au' : List UInt8) (L' : List (Int × List UInt8)) (e' : Int) (hL : L.length ≤ 100000) (hs : sec.length ≤ 100000) (hw : wrO c i L = true) (h : opA c i (q16 au) L sec = (c', i', q16 au', L', e')) : FC Tryd.prog GE 86 [.agg [.int .i64 c, .int .i64 i, .u8 (gb au 0), .u8 (gb au 1), .u8 (gb au 2), .u8 (gb au 3), .u8 (gb au 4), .u8 (gb au 5), .u8 (gb au 6), .u8 (gb au 7), .u8 (gb au 8), .u8 (gb au 9), .u8 (gb au 10), .u8 (gb au 11), .u8 (gb au 12), .u8 (gb au 13), .u8 (gb au 14), .u8 (gb au 15), .rof 2 L.length (fS L)], .str sec] (.tup [.agg [.int .i64 c', .int .i64 i', .u8 (gb au' 0), .u8 (gb au' 1), .u8 (gb au' 2), .u8 (gb au' 3), .u8 (gb au' 4), .u8 (gb au' 5), .u8 (gb au' 6), .u8 (gb au' 7), .u8 (gb au' 8), .u8 (gb au' 9), .u8 (gb au' 10), .u8 (gb au' 11), .u8 (gb au' 12), .u8 (gb au' 13), .u8 (gb au' 14), .u8 (gb au' 15), .owns 2 L'.length (atS L')], .int .i64 e']) none := by
  refine fict_ 61 ti_eq gpE Tryd.func86 (fun C hE hm hP hrc hrn => ?_) (had := (by exact adl2_))
  refine vs ?_
  refine R_ hE ?_
  refine sq_n ?_
  refine vs ?_
  first | refine O_ ?_ | refine OD_ hm ?_
  refine G_ 1 hE ?_
  refine rc_ hE hP (marks_fc c i au L (by omega)) Tryd.func88 ?_ (hm := by exact ma2_) (hnr := by exact nrt2_) (had := by exact adt2_)
  refine G_ 200 hE ?_
  first | refine rz ?_ | refine ZD_ ?_
  refine sq_n ?_
  refine vs ?_
  refine vs ?_
  have hor := opA_ref c i (q16 au) L sec
  have ho0 := opA_ref0 c i (q16 au) L sec
  by_cases h1 : mkN L L.length = 1
  · obtain ⟨hat, hk80, hkl⟩ := mk_at L h1
    have hi0 := ((mk_one L).2 h1).1
    obtain ⟨k, hk⟩ : ∃ k, k = (idxM L).toNat := ⟨_, rfl⟩
    have hkk : mkL L L.length = (k : Int) := by omega
    rw [← hk] at hkl hk80
    rw [hkk] at hor ho0 ⊢
    rw [Int.toNat_natCast] at hor ho0
    obtain ⟨a, ha⟩ : ∃ a, a = L.getD k (0, []) := ⟨_, rfl⟩
    have hf1 : fS L k 1 = .str a.2 := by rw [ha]; rfl
    rw [← ha] at hor ho0
    first | refine O_ ?_ | refine OD_ hm ?_
    refine G_ 2 hE ?_
    rw [decide_eq_true (show (mkN L L.length : Int) = 1 by omega), Bool.not_true]
    refine G_ 1 hE ?_
    refine GT_ hE (rfl) ?_
    refine GT_ hE (rfl) ?_
    refine GT_ hE (rfl) ?_
    refine GT_ hE (rfl) ?_
    refine GT_ hE (rfl) ?_
    refine GT_ hE (rfl) ?_
    rw [hf1]
    refine GT_ hE (rfl) ?_
    refine GT_ hE (rfl) ?_
    by_cases hv : a.2.length = 16
    · have hor := hor h1 hv hw
      rw [decide_eq_true (show (a.2.length : Int) = 16 by omega), Bool.not_true]
      have hw2 := wrO_set c i L hkl z16 z16_len (by rw [← ha]; exact hv) hw
      have wf := with_fc c i au z16 L k (by omega) (by omega)
      rw [wtA_in (by omega)] at wf
      have hle := wrS_le (q16 au) (q16_len au) hw2
      obtain ⟨B, hB⟩ : ∃ B, B = wrS c i (q16 au) (L.set k (80, z16)) := ⟨_, rfl⟩
      have wy := rwrite_y c i au (L.set k (80, z16)) (by simp; omega) hw2
      rw [← hB] at wy hle hor
      refine G_ 200 hE ?_
      first | refine rz ?_ | refine ZD_ ?_
      refine A_ ?_
      first | refine O_ ?_ | refine OD_ hm ?_
      refine G_ 2 hE ?_
      refine rc_ hE hP (rzero16_fc) Tryd.func111 ?_
      refine rc_ hE hP (wf) Tryd.func110 ?_ (hm := by exact ma2_) (hnr := by exact nrt2_) (had := by exact adt2_)
      refine rc_ hE hP (wy) Tryd.func32 ?_ (hm := by exact ma2_) (hnr := by exact nrt2_) (had := by exact adt2_)
      refine G_ 200 hE ?_
      first | refine rz ?_ | refine ZD_ ?_
      refine A_ ?_
      first | refine O_ ?_ | refine OD_ hm ?_
      refine G_ 2 hE ?_
      refine rc_ hE hP (roMac_fc sec B (by omega) (by omega)) Tryd.func112 ?_
      refine G_ 6 hE ?_
      rw [← ha]
      refine G_ 1 hE ?_
      by_cases hm2 : hmM sec B = a.2
      · rw [decide_eq_true hm2, Bool.not_true]
        rw [if_pos hm2] at hor
        rw [hor] at h
        simp only [Prod.mk.injEq] at h
        obtain ⟨rfl, rfl, hq, rfl, rfl⟩ := h
        simp only [← q16_inj hq, Nat.reduceLT]
        refine G_ 200 hE ?_
        first | refine rz ?_ | refine ZD_ ?_
        refine A_ ?_
        first | refine O_ ?_ | refine OD_ hm ?_
        refine G_ 5 hE ?_
        refine AOC_ hE (cvSt (L := L) (k := k) (by omega)) ?_
        obtain ⟨T, hT⟩ : ∃ T, T = L.take k := ⟨_, rfl⟩
        have hTl : T.length = k := by rw [hT, List.length_take]; omega
        have hcl : k + (L.length - ((k : Int) + 1).toNat) = (cutI L k).length := by rw [← cutI_def, List.length_append, List.length_take, List.length_drop]; omega
        rw [← hT]
        refine G_ 5 hE ?_
        refine AOC_ hE (cvSd (L := L) (k := ((k : Int) + 1).toNat) rfl (fun _ _ => rfl)) ?_
        refine G_ 200 hE ?_
        first | refine rz ?_ | refine ZD_ ?_
        refine A_ ?_
        rw [hT, atS_app, hcl, show ((k : Int) + 1).toNat = k + 1 by omega, cutI_def]
        exact retct_ (h := by exact ma3_)
      · rw [decide_eq_false hm2, Bool.not_false]
        rw [if_neg hm2] at hor
        rw [hor] at h
        simp only [Prod.mk.injEq] at h
        obtain ⟨rfl, rfl, hz, rfl, rfl⟩ := h
        simp only [z16_q hz, Nat.reduceLT]
        refine G_ 200 hE ?_
        first | refine rz ?_ | refine ZD_ ?_
        refine sq_n ?_
        refine vT hE rfl (rfl) ?_
        refine vs ?_
        first | refine O_ ?_ | refine OD_ hm ?_
        refine G_ 200 hE ?_
        first | refine rz ?_ | refine ZD_ ?_
        refine sq_n ?_
        refine VC.weak ?_ (knilcs 4 18 2 (by exact rfl) (by exact rfl) (by exact rfl))
        refine wv_ (sos_ 4 18 970 0) ?_
        refine A_ ?_
        exact retct_ (h := by exact ma3_)
    · rw [ho0 (fun q => hv q.2)] at h
      simp only [Prod.mk.injEq] at h
      obtain ⟨rfl, rfl, hz, rfl, rfl⟩ := h
      simp only [z16_q hz, Nat.reduceLT]
      rw [decide_eq_false (show ¬ (a.2.length : Int) = 16 by omega), Bool.not_false]
      refine G_ 200 hE ?_
      first | refine rz ?_ | refine ZD_ ?_
      refine sq_n ?_
      refine vT hE rfl (rfl) ?_
      refine vs ?_
      first | refine O_ ?_ | refine OD_ hm ?_
      refine G_ 200 hE ?_
      first | refine rz ?_ | refine ZD_ ?_
      refine sq_n ?_
      refine VC.weak ?_ (knilcs 4 18 2 (by exact rfl) (by exact rfl) (by exact rfl))
      refine wv_ (sos_ 4 18 970 0) ?_
      refine A_ ?_
      exact retct_ (h := by exact ma3_)
  · rw [ho0 (fun q => h1 q.1)] at h
    simp only [Prod.mk.injEq] at h
    obtain ⟨rfl, rfl, hz, rfl, rfl⟩ := h
    simp only [z16_q hz, Nat.reduceLT]
    first | refine O_ ?_ | refine OD_ hm ?_
    refine G_ 2 hE ?_
    rw [decide_eq_false (show ¬ (mkN L L.length : Int) = 1 by omega), Bool.not_false]
    refine G_ 1 hE ?_
    refine GF_ hE (rfl) ?_
    refine GF_ hE (rfl) ?_
    refine GF_ hE (rfl) ?_
    refine GF_ hE (rfl) ?_
    refine GF_ hE (rfl) ?_
    refine GF_ hE (rfl) ?_
    refine GF_ hE (rfl) ?_
    refine GI_ (.bool true) hE (rfl) ?_
    refine G_ 200 hE ?_
    first | refine rz ?_ | refine ZD_ ?_
    refine sq_n ?_
    refine vT hE rfl (rfl) ?_
    refine vs ?_
    first | refine O_ ?_ | refine OD_ hm ?_
    refine G_ 200 hE ?_
    first | refine rz ?_ | refine ZD_ ?_
    refine sq_n ?_
    refine VC.weak ?_ (knilcs 4 18 2 (by exact rfl) (by exact rfl) (by exact rfl))
    refine wv_ (sos_ 4 18 970 0) ?_
    refine A_ ?_
    exact retct_ (h := by exact ma3_)
end Go.Proofs.YtocfhkmdkdjinaaDoor

/- The reference of layer 19: Open, Opened. Printed by wp.py. -/
namespace Go.Proofs.YtocfhkmdkdjinaaDoor
open Go Go.RowKit
set_option linter.unusedVariables false
set_option linter.unusedSimpArgs false
set_option maxRecDepth 100000
set_option maxHeartbeats 4000000
attribute [local irreducible] inR VC RG VCn sq inS lq nq jq Wk
attribute [local simp] nmL_atS atS_fr atS_nil
theorem rdP_all (l : List UInt8) : ∃ c i au L e, rdP l = (c, i, q16 au, L, e) ∧ L.length ≤ l.length := by
  rcases h : rdS l with _ | L
  · exact ⟨_, _, z16, _, _, by rw [rdP_none h]; rfl, by simp⟩
  · obtain ⟨-, -, -, hok, hb⟩ := wr_rd l L h
    have h1 := bodyA_ge L
    rw [hb, List.length_drop] at h1
    exact ⟨_, _, _, _, _, rdP_some h, by omega⟩
theorem ofP_y {l : List UInt8} {ask : Bool} {c i : Int} {au : List UInt8} {L : List (Int × List UInt8)} (h : rdP l = (c, i, au, L, 0)) (hc : decide (c = 1) = ask) : ofP l ask = (c, i, au, L, 0) := by unfold ofP; rw [h, if_neg (fun q => q.2 hc)]
theorem ofP_s {l : List UInt8} {ask : Bool} {c i : Int} {au : List UInt8} {L : List (Int × List UInt8)} (h : rdP l = (c, i, au, L, 0)) (hc : decide (c = 1) ≠ ask) : ofP l ask = (0, 0, z16, [], 10) := by unfold ofP; rw [h, if_pos ⟨rfl, hc⟩]
theorem ofP_e {l : List UInt8} {ask : Bool} {c i : Int} {au : List UInt8} {L : List (Int × List UInt8)} {e : Int} (h : rdP l = (c, i, au, L, e)) (he : ¬ e = 0) : ofP l ask = (c, i, au, L, e) := by unfold ofP; rw [h, if_neg (fun q => he q.1)]
theorem rdP_au {l : List UInt8} {c i : Int} {au : List UInt8} {L : List (Int × List UInt8)} (h : rdP l = (c, i, au, L, 0)) : au = q16 (l.drop 4) ∧ 20 ≤ l.length ∧ l.length ≤ 4096 := by
  rcases hr : rdS l with _ | M
  · rw [rdP_none hr] at h; simp at h
  · rw [rdP_some hr] at h
    simp only [Prod.mk.injEq] at h
    obtain ⟨-, -, ho, -, -⟩ := wr_rd l M hr
    have := (rdO_iff l).1 ho
    exact ⟨h.2.2.1.symm, this.1, this.2.1⟩
theorem opA_fail {c i : Int} {au : List UInt8} {L : List (Int × List UInt8)} {sec : List UInt8} {c2 i2 : Int} {au2 : List UInt8} {L2 : List (Int × List UInt8)} {e2 : Int} (h : opA c i au L sec = (c2, i2, au2, L2, e2)) (he : ¬ e2 = 0) : c2 = 0 ∧ i2 = 0 ∧ au2 = z16 ∧ L2 = [] := by
  unfold opA at h
  split at h
  · split at h
    · split at h
      · simp only [Prod.mk.injEq] at h; omega
      · simp only [Prod.mk.injEq] at h; exact ⟨h.1.symm, h.2.1.symm, h.2.2.1.symm, h.2.2.2.1.symm⟩
    · simp only [Prod.mk.injEq] at h; exact ⟨h.1.symm, h.2.1.symm, h.2.2.1.symm, h.2.2.2.1.symm⟩
  · simp only [Prod.mk.injEq] at h; exact ⟨h.1.symm, h.2.1.symm, h.2.2.1.symm, h.2.2.2.1.symm⟩
attribute [local irreducible] bodyA wrS wrO idxF idxM z16 seV slV rpV rdO rdS prs rdP prC mkN mkL wrV seL cutI opA ofP opnP opdP opdS md

namespace Uropen2_fc
theorem U : type_of% (@drop_rep UInt8) ∧ type_of% (@drop_rep D) ∧ type_of% (@List.take_zero UInt8) ∧ type_of% (@List.take_zero D) ∧ type_of% @q16_take ∧ type_of% @q16_len ∧ type_of% @q16_fold ∧ type_of% @q16_map ∧ type_of% @decL ∧ type_of% @decI ∧ type_of% @atS_len ∧ type_of% @md_len ∧ type_of% @md_take ∧ type_of% @hmM_len ∧ type_of% @hmM_take := ⟨(@drop_rep UInt8), (@drop_rep D), (@List.take_zero UInt8), (@List.take_zero D), @q16_take, @q16_len, @q16_fold, @q16_map, @decL, @decI, @atS_len, @md_len, @md_take, @hmM_len, @hmM_take⟩
end Uropen2_fc
open Uropen2_fc
theorem ropen2_fc (l sec : List UInt8) (c' i' : Int) (au' : List UInt8) (L' : List (Int × List UInt8)) (e' : Int) (hl : l.length ≤ 100000) (hs : sec.length ≤ 100000) (h : opnP l sec = (c', i', q16 au', L', e')) : FC Tryd.prog GE 40 [.str l, .str sec] (.tup [.agg [.int .i64 c', .int .i64 i', .u8 (gb au' 0), .u8 (gb au' 1), .u8 (gb au' 2), .u8 (gb au' 3), .u8 (gb au' 4), .u8 (gb au' 5), .u8 (gb au' 6), .u8 (gb au' 7), .u8 (gb au' 8), .u8 (gb au' 9), .u8 (gb au' 10), .u8 (gb au' 11), .u8 (gb au' 12), .u8 (gb au' 13), .u8 (gb au' 14), .u8 (gb au' 15), .owns 2 L'.length (atS L')], .int .i64 e']) none := by
  refine fict_ 26 ti_eq gpE Tryd.func40 (fun C hE hm hP hrc hrn => ?_) (had := (by exact adl2_))
  obtain ⟨c, i, au, L, e, hr, hLl⟩ := rdP_all l
  refine vs ?_
  refine R_ hE ?_
  refine sq_n ?_
  refine vs ?_
  first | refine O_ ?_ | refine OD_ hm ?_
  refine G_ 1 hE ?_
  refine rc_ hE hP (rread_fc l c i au L e hr) Tryd.func37 ?_ (hm := by exact ma2_) (hnr := by exact nrt2_) (had := by exact adt2_)
  refine G_ 200 hE ?_
  first | refine rz ?_ | refine ZD_ ?_
  refine sq_n ?_
  refine vs ?_
  by_cases he : e = 0
  · subst he
    by_cases hc : c = 1
    · have hop := opnP_y (sec := sec) (ofP_y (ask := true) hr (decide_eq_true hc))
      rw [hop] at h
      have opf := ropen_fc c i au L sec c' i' au' L' e' (by omega) hs (rdP_wrO hr) h
      refine A_ ?_
      refine C_ hE (fun hcc => ?_) (fun hcc => ?_) <;> (try (exfalso; omega))
      refine A_ ?_
      first | refine O_ ?_ | refine OD_ hm ?_
      refine G_ 2 hE ?_
      refine rc_ hE hP (opf) Tryd.func86 ?_ (hm := by exact ma2_) (hnr := by exact nrt2_) (had := by exact adt2_)
      refine G_ 200 hE ?_
      first | refine rz ?_ | refine ZD_ ?_
      refine A_ ?_
      exact retct_ (h := by exact ma3_)
    · have hop := opnP_n (sec := sec) (ofP_s (ask := true) hr (by simp [hc])) (by decide)
      rw [hop] at h
      simp only [Prod.mk.injEq] at h
      obtain ⟨rfl, rfl, hz, rfl, rfl⟩ := h
      simp only [z16_q hz, Nat.reduceLT]
      refine A_ ?_
      refine C_ hE (fun hcc => ?_) (fun hcc => ?_) <;> (try (exfalso; omega))
      refine vs ?_
      first | refine O_ ?_ | refine OD_ hm ?_
      refine G_ 200 hE ?_
      first | refine rz ?_ | refine ZD_ ?_
      refine sq_n ?_
      refine VC.weak ?_ (knilcs 4 18 2 (by exact rfl) (by exact rfl) (by exact rfl))
      refine wv_ (sos_ 4 18 970 0) ?_
      refine A_ ?_
      exact retct_ (h := by exact ma3_)
  · have hop := opnP_n (sec := sec) (ofP_e (ask := true) hr he) he
    rw [hop] at h
    simp only [Prod.mk.injEq] at h
    obtain ⟨rfl, rfl, hz, rfl, rfl⟩ := h
    simp only [z16_q hz, Nat.reduceLT]
    refine vs ?_
    first | refine O_ ?_ | refine OD_ hm ?_
    refine G_ 2 hE ?_
    rw [decide_eq_false he]
    refine G_ 200 hE ?_
    first | refine rz ?_ | refine ZD_ ?_
    refine sq_n ?_
    refine vT hE rfl (rfl) ?_
    refine vs ?_
    first | refine O_ ?_ | refine OD_ hm ?_
    refine G_ 200 hE ?_
    first | refine rz ?_ | refine ZD_ ?_
    refine sq_n ?_
    refine VC.weak ?_ (knilcs 4 18 2 (by exact rfl) (by exact rfl) (by exact rfl))
    refine wv_ (sos_ 4 18 970 0) ?_
    refine A_ ?_
    exact retct_ (h := by exact ma3_)

theorem ropened_fc (l ak sec : List UInt8) (c' i' : Int) (au' : List UInt8) (L' : List (Int × List UInt8)) (e' : Int) (hl : l.length ≤ 100000) (hs : sec.length ≤ 100000) (h : opdP l (q16 ak) sec = (c', i', q16 au', L', e')) : FC Tryd.prog GE 41 [.str l, .aggb (q16 ak), .str sec] (.tup [.agg [.int .i64 c', .int .i64 i', .u8 (gb au' 0), .u8 (gb au' 1), .u8 (gb au' 2), .u8 (gb au' 3), .u8 (gb au' 4), .u8 (gb au' 5), .u8 (gb au' 6), .u8 (gb au' 7), .u8 (gb au' 8), .u8 (gb au' 9), .u8 (gb au' 10), .u8 (gb au' 11), .u8 (gb au' 12), .u8 (gb au' 13), .u8 (gb au' 14), .u8 (gb au' 15), .owns 2 L'.length (atS L')], .int .i64 e']) none := by
  refine fict_ 56 ti_eq gpE Tryd.func41 (fun C hE hm hP hrc hrn => ?_) (had := (by exact adl2_))
  obtain ⟨c, i, au, L, e, hr, hLl⟩ := rdP_all l
  refine vs ?_
  refine R_ hE ?_
  refine sq_n ?_
  refine vs ?_
  first | refine O_ ?_ | refine OD_ hm ?_
  refine G_ 1 hE ?_
  refine rc_ hE hP (rread_fc l c i au L e hr) Tryd.func37 ?_ (hm := by exact ma2_) (hnr := by exact nrt2_) (had := by exact adt2_)
  refine G_ 200 hE ?_
  first | refine rz ?_ | refine ZD_ ?_
  refine sq_n ?_
  refine vs ?_
  by_cases he : e = 0
  · subst he
    obtain ⟨hau, h20, h4096⟩ := rdP_au hr
    by_cases hc : c = 1
    · have hop := opdP_n (ak := q16 ak) (sec := sec) (ofP_s (ask := false) hr (by simp [hc])) (by decide)
      rw [hop] at h
      simp only [Prod.mk.injEq] at h
      obtain ⟨rfl, rfl, hz, rfl, rfl⟩ := h
      simp only [z16_q hz, Nat.reduceLT]
      refine A_ ?_
      refine C_ hE (fun hcc => ?_) (fun hcc => ?_) <;> (try (exfalso; omega))
      refine vs ?_
      first | refine O_ ?_ | refine OD_ hm ?_
      refine G_ 200 hE ?_
      first | refine rz ?_ | refine ZD_ ?_
      refine sq_n ?_
      refine VC.weak ?_ (knilcs 6 18 2 (by exact rfl) (by exact rfl) (by exact rfl))
      refine wv_ (sos_ 6 18 970 0) ?_
      refine A_ ?_
      exact retct_ (h := by exact ma3_)
    · have hof := ofP_y (ask := false) hr (by simp [hc])
      have hml := md_len (l.take 4 ++ (q16 ak ++ (l.drop 20 ++ sec)))
      have hQs : opdS l (q16 ak) sec = md (l.take 4 ++ (q16 ak ++ (l.drop 20 ++ sec))) := by unfold opdS; rfl
      obtain ⟨c2, i2, au2, L2, e2, ho2⟩ := opA_ex c i ak L sec
      have opf := ropen_fc c i ak L sec c2 i2 au2 L2 e2 (by omega) hs (rdP_wrO hr) ho2
      refine A_ ?_
      refine C_ hE (fun hcc => ?_) (fun hcc => ?_) <;> (try (exfalso; omega))
      refine A_ ?_
      first | refine O_ ?_ | refine OD_ hm ?_
      refine G_ 10 hE ?_
      rw [show List.take 4 l ++ q16 ak ++ List.drop 20 l ++ sec = l.take 4 ++ (q16 ak ++ (l.drop 20 ++ sec)) by simp only [List.append_assoc]]
      refine rc_ hE hP (rMd_fc (l.take 4 ++ (q16 ak ++ (l.drop 20 ++ sec))) (by simp only [List.length_append, List.length_take, List.length_drop, q16_len]; omega)) Tryd.func87 ?_
      refine G_ 2 hE ?_
      rw [d420 l h20, ← hau]
      refine G_ 1 hE ?_
      by_cases hmm : md (l.take 4 ++ (q16 ak ++ (l.drop 20 ++ sec))) = q16 au
      · rw [decide_eq_true hmm, Bool.not_true]
        refine G_ 200 hE ?_
        first | refine rz ?_ | refine ZD_ ?_
        refine A_ ?_
        first | refine O_ ?_ | refine OD_ hm ?_
        refine G_ 2 hE ?_
        refine rc_ hE hP (opf) Tryd.func86 ?_ (hm := by exact ma2_) (hnr := by exact nrt2_) (had := by exact adt2_)
        by_cases he2 : e2 = 0
        · subst he2
          have hop := opdP_y (ak := q16 ak) (sec := sec) hof (by rw [hQs]; exact hmm) ho2
          rw [hop] at h
          simp only [Prod.mk.injEq] at h
          obtain ⟨rfl, rfl, hq, rfl, rfl⟩ := h
          simp only [← q16_inj hq, Nat.reduceLT]
          refine G_ 200 hE ?_
          first | refine rz ?_ | refine ZD_ ?_
          refine A_ ?_
          exact retct_ (h := by exact ma3_)
        · have hop := opdP_e (ak := q16 ak) (sec := sec) hof (by rw [hQs]; exact hmm) ho2 he2
          obtain ⟨rfl, rfl, hz2, rfl⟩ := opA_fail ho2 he2
          rw [hop] at h
          simp only [Prod.mk.injEq] at h
          obtain ⟨rfl, rfl, hz, rfl, rfl⟩ := h
          simp only [z16_q hz, z16_q hz2.symm, Nat.reduceLT]
          refine G_ 200 hE ?_
          first | refine rz ?_ | refine ZD_ ?_
          refine sq_n ?_
          refine vs ?_
          refine vs ?_
          first | refine O_ ?_ | refine OD_ hm ?_
          refine G_ 2 hE ?_
          rw [decide_eq_false he2]
          refine G_ 200 hE ?_
          first | refine rz ?_ | refine ZD_ ?_
          refine sq_n ?_
          refine vF hE rfl (rfl) ?_
          refine A_ ?_
          exact retct_ (h := by exact ma3_)
      · have hop := opdP_m (ak := q16 ak) (sec := sec) hof (by rw [hQs]; exact hmm)
        rw [hop] at h
        simp only [Prod.mk.injEq] at h
        obtain ⟨rfl, rfl, hz, rfl, rfl⟩ := h
        simp only [z16_q hz, Nat.reduceLT]
        rw [decide_eq_false hmm, Bool.not_false]
        refine G_ 200 hE ?_
        first | refine rz ?_ | refine ZD_ ?_
        refine sq_n ?_
        refine vT hE rfl (rfl) ?_
        refine vs ?_
        first | refine O_ ?_ | refine OD_ hm ?_
        refine G_ 200 hE ?_
        first | refine rz ?_ | refine ZD_ ?_
        refine sq_n ?_
        refine VC.weak ?_ (knilcs 6 18 2 (by exact rfl) (by exact rfl) (by exact rfl))
        refine wv_ (sos_ 6 18 970 0) ?_
        refine A_ ?_
        exact retct_ (h := by exact ma3_)
  · have hop := opdP_n (ak := q16 ak) (sec := sec) (ofP_e (ask := false) hr he) he
    rw [hop] at h
    simp only [Prod.mk.injEq] at h
    obtain ⟨rfl, rfl, hz, rfl, rfl⟩ := h
    simp only [z16_q hz, Nat.reduceLT]
    refine vs ?_
    first | refine O_ ?_ | refine OD_ hm ?_
    refine G_ 2 hE ?_
    rw [decide_eq_false he]
    refine G_ 200 hE ?_
    first | refine rz ?_ | refine ZD_ ?_
    refine sq_n ?_
    refine vT hE rfl (rfl) ?_
    refine vs ?_
    first | refine O_ ?_ | refine OD_ hm ?_
    refine G_ 200 hE ?_
    first | refine rz ?_ | refine ZD_ ?_
    refine sq_n ?_
    refine VC.weak ?_ (knilcs 6 18 2 (by exact rfl) (by exact rfl) (by exact rfl))
    refine wv_ (sos_ 6 18 970 0) ?_
    refine A_ ?_
    exact retct_ (h := by exact ma3_)
end Go.Proofs.YtocfhkmdkdjinaaDoor
