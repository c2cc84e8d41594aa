/- What the claim leans on, text Zsa: RadS. No condition beyond what each lemma states. -/
import Derived.Test.YtocfhkmdkdjinaaDoorZre

/- What is sealed is opened: the plain law. -/
namespace Go.Proofs.YtocfhkmdkdjinaaDoor
open Go Go.RowKit
set_option linter.unusedVariables false
set_option linter.unusedSimpArgs false
theorem idxF_none : ∀ (L : List (Int × List UInt8)) (k : Nat) (m : List UInt8), idxF L k = -1 → idxF (L ++ [(80, m)]) k = (k + L.length : Nat)
  | [], k, m, h => by simp [idxF]
  | a :: L, k, m, h => by
    unfold idxF at h
    split at h
    · omega
    · rename_i ha
      show idxF (a :: (L ++ [(80, m)])) k = _
      unfold idxF
      rw [if_neg ha, idxF_none L (k + 1) m h, List.length_cons]
      congr 1
      omega
theorem idxM_none {L : List (Int × List UInt8)} (m : List UInt8) (h : idxM L < 0) : idxM (L ++ [(80, m)]) = (L.length : Nat) := by
  rcases (idxM_lt L).2 with h2 | h2
  · unfold idxM at h2 ⊢
    rw [idxF_none L 0 m h2]
    simp
  · omega
theorem wrO_mark (c i : Int) (L : List (Int × List UInt8)) (m : List UInt8) (hm : m.length = 16) : wrO c i (L ++ [(80, m)]) = wrO c i (L ++ [(80, z16)]) := by
  unfold wrO
  rw [bodyA_snoc L m hm, bodyA_snoc L z16 z16_len]
  simp only [List.all_append, List.length_append, hm, z16_len]
  have e : ∀ v : List UInt8, v.length = 16 → okA (80, v) = true := fun v hv => by unfold okA; simp [hv]
  simp only [List.all_cons, List.all_nil, e m hm, e z16 z16_len]
theorem cutI_last (L : List (Int × List UInt8)) (x : Int × List UInt8) : cutI (L ++ [x]) L.length = L := by
  unfold cutI
  rw [List.take_left', List.drop_of_length_le (by simp), List.append_nil]
  rfl
/-- A packet with its mark opens to the packet. -/
theorem opA_seal (c i : Int) (au : List UInt8) (L : List (Int × List UInt8)) (sec : List UInt8) (h : idxM L < 0) (hw : wrO c i (L ++ [(80, z16)]) = true) : opA c i au (seL c i au L sec) sec = (c, i, au, L, 0) := by
  have hi := idxM_none (hmM sec (wrS c i au (L ++ [(80, z16)]))) h
  have hk : (idxM (seL c i au L sec)).toNat = L.length := by unfold seL; rw [hi, Int.toNat_natCast]
  have hg : (seL c i au L sec).getD L.length (0, []) = (80, hmM sec (wrS c i au (L ++ [(80, z16)]))) := by
    unfold seL
    rw [List.getD_eq_getElem?_getD, List.getElem?_append_right (Nat.le_refl _), Nat.sub_self]
    rfl
  have hv : mkV (seL c i au L sec) = hmM sec (wrS c i au (L ++ [(80, z16)])) := by unfold mkV; rw [hk, hg]
  have hz : mkZ (seL c i au L sec) = L ++ [(80, z16)] := by
    unfold mkZ
    rw [hk, hg]
    unfold seL
    rw [List.set_append_right _ _ (Nat.le_refl _), Nat.sub_self]
    rfl
  rw [opA_y ⟨by unfold seL; rw [hi]; omega, by rw [hv]; exact hmM_len _ _, by
    rw [hk]
    unfold seL
    rw [List.drop_of_length_le (by simp)]
    decide⟩ (by rw [hz]; exact hw) (by rw [hz, hv]), hk]
  congr 3
  unfold seL
  rw [cutI_last]
theorem q16_self {S : List UInt8} (h : S.length = 16) : q16 S = S := q16_of S h
theorem rdP_wr (c i : Int) (au : List UInt8) (L : List (Int × List UInt8)) (ha : au.length = 16) (h : wrO c i L = true) : rdP (wrS c i au L) = (c, i, au, L, 0) := by
  obtain ⟨h1, h2, h3, -, h5, -, h7⟩ := rd_wr c i au L ha h
  have e := d420 (wrS c i au L) (by omega)
  rw [rdP_some h1, h2, h3, ← e, h5]
theorem wrO_seL (c i : Int) (au : List UInt8) (L : List (Int × List UInt8)) (sec : List UInt8) (h : wrO c i (L ++ [(80, z16)]) = true) : wrO c i (seL c i au L sec) = true := by
  unfold seL
  rw [wrO_mark c i L _ (hmM_len _ _)]
  exact h
theorem opn_seal (i : Int) (au : List UInt8) (L : List (Int × List UInt8)) (sec : List UInt8) (ha : au.length = 16) (h : idxM L < 0) (hw : wrO 1 i (L ++ [(80, z16)]) = true) : opnP (wrS 1 i au (seL 1 i au L sec)) sec = (1, i, au, L, 0) := by
  have hr := rdP_wr 1 i au _ ha (wrO_seL 1 i au L sec hw)
  have ho : ofP (wrS 1 i au (seL 1 i au L sec)) true = (1, i, au, seL 1 i au L sec, 0) := by
    unfold ofP
    rw [hr]
    simp
  rw [opnP_y ho]
  exact opA_seal 1 i au L sec h hw
theorem wrS_parts (c i : Int) (au : List UInt8) (L : List (Int × List UInt8)) (S : List UInt8) (ha : au.length = 16) : (wrS c i au L).take 4 ++ S ++ (wrS c i au L).drop 20 = wrS c i S L := by
  rw [wrS_def2, wrS_def2 c i S]
  have e : ∀ (a b d f : UInt8) (B : List UInt8), (a :: b :: d :: f :: (au ++ B)).take 4 = [a, b, d, f] := by intros; rfl
  have e2 : ∀ (a b d f : UInt8) (B : List UInt8), (a :: b :: d :: f :: (au ++ B)).drop 20 = B := by
    intro a b d f B
    show (au ++ B).drop 16 = B
    rw [← ha, List.drop_left]
  rw [e, e2]
  simp
theorem opd_reply (c i : Int) (ak : List UInt8) (L : List (Int × List UInt8)) (sec S : List UInt8) (ha : ak.length = 16) (hc : ¬ c = 1) (h : idxM L < 0) (hw : wrO c i (L ++ [(80, z16)]) = true) (hS : S = md (wrS c i ak (seL c i ak L sec) ++ sec)) :
    opdP (wrS c i S (seL c i ak L sec)) ak sec = (c, i, S, L, 0) := by
  have hSl : S.length = 16 := by rw [hS, md_len]
  have hr := rdP_wr c i S _ hSl (wrO_seL c i ak L sec hw)
  have ho : ofP (wrS c i S (seL c i ak L sec)) false = (c, i, S, seL c i ak L sec, 0) := by
    unfold ofP
    rw [hr]
    simp [hc]
  have hm : opdS (wrS c i S (seL c i ak L sec)) ak sec = S := by
    have e := wrS_parts c i S (seL c i ak L sec) ak hSl
    unfold opdS
    rw [← List.append_assoc, ← List.append_assoc, e, hS]
  exact opdP_y ho hm (opA_seal c i ak L sec h hw)
end Go.Proofs.YtocfhkmdkdjinaaDoor
