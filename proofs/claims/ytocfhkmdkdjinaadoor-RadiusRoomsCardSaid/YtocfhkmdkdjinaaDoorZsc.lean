/- What the claim leans on, text Zsc: Ra13, Ra14, RadM. No condition beyond what each lemma states. -/
import Derived.Test.YtocfhkmdkdjinaaDoorZd
import Derived.Test.YtocfhkmdkdjinaaDoorZt
import Derived.Test.YtocfhkmdkdjinaaDoorZra
import Derived.Test.YtocfhkmdkdjinaaDoorZre
import Derived.Test.YtocfhkmdkdjinaaDoorZsa

/- The reference of layer 19: zero, Join. Printed by wp.py. -/
namespace Go.Proofs.YtocfhkmdkdjinaaDoor
open Go Go.RowKit
set_option linter.unusedVariables false
set_option linter.unusedSimpArgs false
set_option maxRecDepth 100000
set_option maxHeartbeats 4000000
attribute [local irreducible] inR VC RG VCn sq inS lq nq jq Wk
attribute [local irreducible] joA

namespace Urzero_fc
theorem U : type_of% (@drop_rep UInt8) ∧ type_of% (@drop_rep D) ∧ type_of% (@List.take_zero UInt8) ∧ type_of% (@List.take_zero D) ∧ type_of% @decI := ⟨(@drop_rep UInt8), (@drop_rep D), (@List.take_zero UInt8), (@List.take_zero D), @decI⟩
end Urzero_fc
open Urzero_fc
theorem rzero_fc  : FC Tryd.prog GE 111 [] (.str (List.replicate 16 0)) none := by
  refine fi_ 3 [0] ti_eq gpE Tryd.func111 (fun C hE hm hP hrc hrn => ?_)
  repeat' (first | refine A1_ ?_ | refine C_ hE (fun hc => ?_) (fun hc => ?_) <;> (try (exfalso; omega)))
  exact ret_

theorem rjoin_fc (L : List (Int × List UInt8)) (hL : L.length ≤ 1000000) (hb : (joA L).length ≤ 1000000000) : FC Tryd.prog GE 51 [.rof 2 L.length (fS L)] (.str (joA L)) none := by
  refine fi_ 25 [2] ti_eq gpE Tryd.func51 (fun C hE hm hP hrc hrn => ?_)
  refine A_ ?_
  refine vl (fun k : Nat => ⟨[(0, .rof 2 L.length (fS L)), (3, .str (joA (L.take k))), (4, .int .i64 k), (2, .str [])], [], []⟩) (fun k => k ≤ L.length) (fun k => L.length - k) 0 ?_ (Nat.zero_le _) (fun k hk => ?_)
  · rw [List.take_zero, joA_nil]
    exact wk_ hrc
  by_cases hkl : k < L.length
  · have hsu := joA_succ L hkl
    have hle : (joA (L.take (k + 1))).length ≤ (joA L).length := by
      have := joA_app (L.take (k + 1)) (L.drop (k + 1))
      rw [List.take_append_drop] at this
      rw [this, List.length_append]
      omega
    obtain ⟨a, ha⟩ : ∃ a, a = L.getD k (0, []) := ⟨_, rfl⟩
    have hf0 : fS L k 0 = .int .i64 a.1 := by rw [ha]; rfl
    have hf1 : fS L k 1 = .str a.2 := by rw [ha]; rfl
    rw [← ha] at hsu
    rw [hsu] at hle
    obtain ⟨J, hJ⟩ : ∃ J, J = joA (L.take k) := ⟨_, rfl⟩
    rw [← hJ] at hsu hle ⊢
    refine A_ ?_
    refine C_ hE (fun hc2 => ?_) (fun hc2 => ?_) <;> (try (exfalso; omega))
    refine A_ ?_
    by_cases hkd : a.1 = 79
    · rw [if_pos hkd] at hsu hle
      rw [List.length_append] at hle
      rw [← ha]
      refine C_ hE (fun hc3 => ?_) (fun hc3 => ?_) <;> (try (exfalso; omega))
      refine A_ ?_
      first | refine O_ ?_ | refine OD_ hm ?_
      refine G_ 6 hE ?_
      rw [← ha]
      refine G_ 200 hE ?_
      first | refine rz ?_ | refine ZD_ ?_
      refine A_ ?_
      refine lq_n (k + 1) ?_ (by omega) (by omega)
      rw [hsu]
      exact wk_ hrc
    · rw [if_neg hkd, List.append_nil] at hsu
      rw [← ha]
      refine C_ hE (fun hc3 => ?_) (fun hc3 => ?_) <;> (try (exfalso; omega))
      refine A_ ?_
      refine lq_n (k + 1) ?_ (by omega) (by omega)
      rw [hsu]
      exact wk_ hrc
  · obtain rfl : k = L.length := by omega
    rw [List.take_length]
    repeat' (first | refine A1_ ?_ | refine C_ hE (fun hc => ?_) (fun hc => ?_) <;> (try (exfalso; omega)))
    exact ret_
end Go.Proofs.YtocfhkmdkdjinaaDoor

/- The reference of layer 19: marks. Printed by wp.py. -/
namespace Go.Proofs.YtocfhkmdkdjinaaDoor
open Go Go.RowKit
set_option linter.unusedVariables false
set_option linter.unusedSimpArgs false
set_option maxRecDepth 100000
set_option maxHeartbeats 4000000
attribute [local irreducible] inR VC RG VCn sq inS lq nq jq Wk
/-- How many Marks there are among the first k; where the last of them is. -/
def mkN (L : List (Int × List UInt8)) : Nat → Nat
  | 0 => 0
  | k + 1 => if (L.getD k (0, [])).1 = 80 then mkN L k + 1 else mkN L k
def mkL (L : List (Int × List UInt8)) : Nat → Int
  | 0 => -1
  | k + 1 => if (L.getD k (0, [])).1 = 80 then (k : Int) else mkL L k
theorem mkN_le (L : List (Int × List UInt8)) : ∀ k, mkN L k ≤ k
  | 0 => Nat.le_refl _
  | k + 1 => by have := mkN_le L k; unfold mkN; split <;> omega
theorem mkN_0 (L : List (Int × List UInt8)) : mkN L 0 = 0 := rfl
theorem mkL_0 (L : List (Int × List UInt8)) : mkL L 0 = -1 := rfl
theorem mkN_s (L : List (Int × List UInt8)) (k : Nat) : mkN L (k + 1) = if (L.getD k (0, [])).1 = 80 then mkN L k + 1 else mkN L k := rfl
theorem mkL_s (L : List (Int × List UInt8)) (k : Nat) : mkL L (k + 1) = if (L.getD k (0, [])).1 = 80 then (k : Int) else mkL L k := rfl
attribute [local simp] mkN_0 mkL_0
attribute [local irreducible] mkN mkL

namespace Umarks_fc
theorem U : type_of% (@drop_rep UInt8) ∧ type_of% (@drop_rep D) ∧ type_of% (@List.take_zero UInt8) ∧ type_of% (@List.take_zero D) ∧ type_of% @decI := ⟨(@drop_rep UInt8), (@drop_rep D), (@List.take_zero UInt8), (@List.take_zero D), @decI⟩
end Umarks_fc
open Umarks_fc
theorem marks_fc (c i : Int) (au : List UInt8) (L : List (Int × List UInt8)) (hL : L.length ≤ 1000000) : FC Tryd.prog GE 88 [.agg [.int .i64 c, .int .i64 i, .u8 (gb au 0), .u8 (gb au 1), .u8 (gb au 2), .u8 (gb au 3), .u8 (gb au 4), .u8 (gb au 5), .u8 (gb au 6), .u8 (gb au 7), .u8 (gb au 8), .u8 (gb au 9), .u8 (gb au 10), .u8 (gb au 11), .u8 (gb au 12), .u8 (gb au 13), .u8 (gb au 14), .u8 (gb au 15), .rof 2 L.length (fS L)]] (.tup [.int .i64 (mkN L L.length), .int .i64 (mkL L L.length)]) none := by
  refine fi_ 26 [2, 3] ti_eq gpE Tryd.func88 (fun C hE hm hP hrc hrn => ?_)
  refine A_ ?_
  refine vl (fun k : Nat => ⟨[(1, .ptr 1 1 0), (2, .int .i64 0), (3, .int .i64 0), (4, .int .i64 (mkN L k)), (5, .int .i64 (mkL L k)), (6, .int .i64 k)], [(1, ⟨⟨1, 1, 19⟩, some (.cells [.int .i64 c, .int .i64 i, .u8 (gb au 0), .u8 (gb au 1), .u8 (gb au 2), .u8 (gb au 3), .u8 (gb au 4), .u8 (gb au 5), .u8 (gb au 6), .u8 (gb au 7), .u8 (gb au 8), .u8 (gb au 9), .u8 (gb au 10), .u8 (gb au 11), .u8 (gb au 12), .u8 (gb au 13), .u8 (gb au 14), .u8 (gb au 15), .rof 2 L.length (fS L)])⟩)], []⟩) (fun k => k ≤ L.length) (fun k => L.length - k) 0 ?_ (Nat.zero_le _) (fun k hk => ?_)
  · exact wk_ hrc
  have hmn := mkN_le L k
  by_cases hkl : k < L.length
  · have h1 := mkN_s L k
    have h2 := mkL_s L k
    obtain ⟨a, ha⟩ : ∃ a, a = L.getD k (0, []) := ⟨_, rfl⟩
    rw [← ha] at h1 h2
    refine A_ ?_
    refine C_ hE (fun hc2 => ?_) (fun hc2 => ?_) <;> (try (exfalso; omega))
    refine A_ ?_
    rw [← ha]
    by_cases hkd : a.1 = 80
    · rw [if_pos hkd] at h1 h2
      refine C_ hE (fun hc3 => ?_) (fun hc3 => ?_) <;> (try (exfalso; omega))
      refine A_ ?_
      refine lq_n (k + 1) ?_ (by omega) (by omega)
      rw [h1, h2]
      exact wk_ hrc
    · rw [if_neg hkd] at h1 h2
      refine C_ hE (fun hc3 => ?_) (fun hc3 => ?_) <;> (try (exfalso; omega))
      refine A_ ?_
      refine lq_n (k + 1) ?_ (by omega) (by omega)
      rw [h1, h2]
      exact wk_ hrc
  · obtain rfl : k = L.length := by omega
    repeat' (first | refine A1_ ?_ | refine C_ hE (fun hc => ?_) (fun hc => ?_) <;> (try (exfalso; omega)))
    exact ret_
end Go.Proofs.YtocfhkmdkdjinaaDoor

/- One Mark and its place: the reference's count and the program's search tell the same. Plain. -/
namespace Go.Proofs.YtocfhkmdkdjinaaDoor
open Go Go.RowKit
set_option linter.unusedVariables false
set_option linter.unusedSimpArgs false
/-- How many Marks there are. -/
def cnM (L : List (Int × List UInt8)) : Nat := L.countP (fun a => decide (a.1 = 80))
theorem cnM_cons (a : Int × List UInt8) (L : List (Int × List UInt8)) : cnM (a :: L) = cnM L + if a.1 = 80 then 1 else 0 := by
  unfold cnM
  rw [List.countP_cons]
  simp
theorem mkN_cn (L : List (Int × List UInt8)) : ∀ k, k ≤ L.length → mkN L k = cnM (L.take k)
  | 0, _ => rfl
  | k + 1, h => by
    have hk : k < L.length := h
    have e : cnM (L.take (k + 1)) = cnM (L.take k) + if (L.getD k (0, [])).1 = 80 then 1 else 0 := by
      rw [getD_at L hk, List.take_succ_eq_append_getElem hk]
      unfold cnM
      rw [List.countP_append, List.countP_singleton]
      simp
    rw [e]
    unfold mkN
    rw [mkN_cn L k (by omega)]
    split <;> simp
theorem mkN_all (L : List (Int × List UInt8)) : mkN L L.length = cnM L := by rw [mkN_cn L _ (Nat.le_refl _), List.take_length]
theorem idxF_cn : ∀ (L : List (Int × List UInt8)) (k : Nat), (idxF L k = -1 ∧ cnM L = 0) ∨ ∃ j : Nat, idxF L k = (k + j : Nat) ∧ j < L.length ∧ (L.getD j (0, [])).1 = 80 ∧ cnM L = 1 + cnM (L.drop (j + 1))
  | [], k => .inl ⟨rfl, rfl⟩
  | a :: L, k => by
    unfold idxF
    rw [cnM_cons]
    by_cases h : a.1 = 80
    · rw [if_pos h, if_pos h]
      exact .inr ⟨0, rfl, by simp, h, by simp [Nat.add_comm]⟩
    · rw [if_neg h, if_neg h]
      rcases idxF_cn L (k + 1) with ⟨h1, h2⟩ | ⟨j, h1, h2, h3, h4⟩
      · exact .inl ⟨h1, h2⟩
      · exact .inr ⟨j + 1, by rw [h1]; congr 1; omega, by simp; omega, h3, h4⟩
theorem cnM_0 {L : List (Int × List UInt8)} (h : cnM L = 0) {k : Nat} (hk : k < L.length) : ¬ (L.getD k (0, [])).1 = 80 := by
  rw [getD_at L hk]
  unfold cnM at h
  rw [List.countP_eq_zero] at h
  simpa using h _ (List.getElem_mem hk)
theorem mkL_at (L : List (Int × List UInt8)) {j : Nat} (h : (L.getD j (0, [])).1 = 80) (hc : cnM (L.drop (j + 1)) = 0) : ∀ k, j < k → k ≤ L.length → mkL L k = j
  | 0, h1, _ => absurd h1 (by omega)
  | k + 1, h1, h2 => by
    unfold mkL
    by_cases hj : j = k
    · subst hj
      rw [if_pos h]
    · have hn := cnM_0 hc (k := k - (j + 1)) (by rw [List.length_drop]; omega)
      rw [List.getD_eq_getElem?_getD, List.getElem?_drop, show j + 1 + (k - (j + 1)) = k by omega, ← List.getD_eq_getElem?_getD] at hn
      rw [if_neg hn]
      exact mkL_at L h hc k (by omega) (by omega)
/-- There is one Mark, and it is there. -/
theorem mk_one (L : List (Int × List UInt8)) : (0 ≤ idxM L ∧ idxM (L.drop ((idxM L).toNat + 1)) < 0) ↔ mkN L L.length = 1 := by
  rw [mkN_all]
  unfold idxM
  rcases idxF_cn L 0 with ⟨h1, h2⟩ | ⟨j, h1, h2, h3, h4⟩
  · rw [h1, h2]; simp
  · rw [h1, h4]
    rw [show (((0 + j : Nat) : Int)).toNat = j by omega]
    rcases idxF_cn (L.drop (j + 1)) 0 with ⟨g1, g2⟩ | ⟨i, g1, g2, g3, g4⟩
    · rw [g1, g2]; simp
    · rw [g1, g4]; simp
theorem mk_zero (L : List (Int × List UInt8)) : idxM L < 0 ↔ mkN L L.length = 0 := by
  rw [mkN_all]
  unfold idxM
  rcases idxF_cn L 0 with ⟨h1, h2⟩ | ⟨j, h1, h2, h3, h4⟩
  · rw [h1, h2]; simp
  · rw [h1, h4]; simp
theorem mk_at (L : List (Int × List UInt8)) (h : mkN L L.length = 1) : mkL L L.length = idxM L ∧ (L.getD (idxM L).toNat (0, [])).1 = 80 ∧ (idxM L).toNat < L.length := by
  rw [mkN_all] at h
  unfold idxM
  rcases idxF_cn L 0 with ⟨h1, h2⟩ | ⟨j, h1, h2, h3, h4⟩
  · omega
  · rw [h1, show (((0 + j : Nat) : Int)).toNat = j by omega]
    refine ⟨?_, h3, h2⟩
    rw [mkL_at L h3 (by omega) _ h2 (Nat.le_refl _)]
    simp
theorem set_split (L : List (Int × List UInt8)) {k : Nat} (h : k < L.length) (x : Int × List UInt8) : L.set k x = L.take k ++ ([x] ++ L.drop (k + 1)) := by
  rw [List.set_eq_take_append_cons_drop, if_pos h]
  rfl
theorem list_split (L : List (Int × List UInt8)) {k : Nat} (h : k < L.length) : L = L.take k ++ ([L.getD k (0, [])] ++ L.drop (k + 1)) := by
  have e := set_split L h (L.getD k (0, []))
  rw [← e, getD_at L h, List.set_getElem_self]
theorem wrO_set (c i : Int) (L : List (Int × List UInt8)) {k : Nat} (h : k < L.length) (v : List UInt8) (hv : v.length = 16) (hk : (L.getD k (0, [])).2.length = 16) (hw : wrO c i L = true) : wrO c i (L.set k (80, v)) = true := by
  obtain ⟨h1, h2, h3, h4, h5⟩ := (wrO_iff _ _ _).1 hw
  rw [list_split L h] at h4 h5
  rw [set_split L h]
  have hx : okA (80, v) = true := (okA_iff _).2 ⟨by simp, by simp, by simp [hv]⟩
  simp only [List.all_append, Bool.and_eq_true, List.all_cons, List.all_nil] at h4
  simp only [bodyA_app, bodyA_one, enA_len, List.length_append, hk] at h5
  refine (wrO_iff _ _ _).2 ⟨h1, h2, h3, ?_, ?_⟩
  · simp only [List.all_append, Bool.and_eq_true, List.all_cons, List.all_nil]
    exact ⟨h4.1, ⟨hx, trivial⟩, h4.2.2⟩
  · simp only [bodyA_app, bodyA_one, enA_len, List.length_append, hv]
    exact h5
theorem rdP_wrO {l : List UInt8} {c i : Int} {au : List UInt8} {L : List (Int × List UInt8)} (h : rdP l = (c, i, au, L, 0)) : wrO c i L = true := by
  rcases hr : rdS l with _ | M
  · rw [rdP_none hr] at h; simp at h
  · rw [rdP_some hr] at h
    simp only [Prod.mk.injEq] at h
    obtain ⟨rfl, rfl, -, rfl, -⟩ := h
    exact (wr_rd l M hr).1
/-- Of a packet that can be written: the reference's opening. -/
theorem opA_ref (c i : Int) (au : List UInt8) (L : List (Int × List UInt8)) (sec : List UInt8) (h : mkN L L.length = 1) (hv : (L.getD (mkL L L.length).toNat (0, [])).2.length = 16) (hw : wrO c i L = true) :
    opA c i au L sec = if hmM sec (wrS c i au (L.set (mkL L L.length).toNat (80, z16))) = (L.getD (mkL L L.length).toNat (0, [])).2 then (c, i, au, cutI L (mkL L L.length).toNat, 0) else (0, 0, z16, [], 5) := by
  obtain ⟨h1, h2, h3⟩ := mk_at L h
  rw [h1] at hv ⊢
  have hm := (mk_one L).2 h
  have hz : mkZ L = L.set (idxM L).toNat (80, z16) := by unfold mkZ; rw [h2]
  have hg : mkV L = (L.getD (idxM L).toNat (0, [])).2 := rfl
  have ha : 0 ≤ idxM L ∧ (mkV L).length = 16 ∧ idxM (L.drop ((idxM L).toNat + 1)) < 0 := ⟨hm.1, hv, hm.2⟩
  have hwz : wrO c i (mkZ L) = true := by rw [hz]; exact wrO_set c i L h3 z16 z16_len hv hw
  by_cases he : hmM sec (wrS c i au (mkZ L)) = mkV L
  · rw [opA_y ha hwz he]
    rw [hz, hg] at he
    rw [if_pos he]
  · rw [opA_n ha hwz he]
    rw [hz, hg] at he
    rw [if_neg he]
theorem opA_ref0 (c i : Int) (au : List UInt8) (L : List (Int × List UInt8)) (sec : List UInt8) (h : ¬ (mkN L L.length = 1 ∧ (L.getD (mkL L L.length).toNat (0, [])).2.length = 16)) : opA c i au L sec = (0, 0, z16, [], 5) := by
  refine opA_no fun ha => h ?_
  have h1 := (mk_one L).1 ⟨ha.1, ha.2.2⟩
  refine ⟨h1, ?_⟩
  rw [(mk_at L h1).1]
  exact ha.2.1
end Go.Proofs.YtocfhkmdkdjinaaDoor
