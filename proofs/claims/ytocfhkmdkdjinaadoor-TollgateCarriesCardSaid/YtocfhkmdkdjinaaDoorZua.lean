/- What the claim leans on, text Zua: ShaC, Std. No condition beyond what each lemma states. -/
import Derived.Test.YtocfhkmdkdjinaaDoorZe
import Derived.Test.YtocfhkmdkdjinaaDoorZd
import Derived.Test.YtocfhkmdkdjinaaDoorZt
import Derived.Test.YtocfhkmdkdjinaaDoorZf

/- SHA-256 reckoned by the kernel: a row of words in turn. -/
namespace Go.Proofs.YtocfhkmdkdjinaaDoor
set_option linter.unusedVariables false

/-- The schedule's words, the last one first. -/
def wL (b : List UInt8) : Nat → List UInt32
  | 0 => []
  | k + 1 => (if k < 16 then bword b (4 * k) else (wL b k).getD 15 0 + (wL b k).getD 6 0 + sig0 ((wL b k).getD 14 0) + sig1 ((wL b k).getD 1 0)) :: wL b k
theorem wL_get (b : List UInt8) : ∀ (k j : Nat), j < k → (wL b k).getD j 0 = wk b (k - 1 - j)
  | 0, j, h => absurd h (by omega)
  | k + 1, 0, h => by
    simp only [wL, List.getD_cons_zero, Nat.add_sub_cancel, Nat.sub_zero]
    split
    · rename_i hk; rw [wk_lo b hk]
    · rename_i hk
      rw [wk_hi b hk, wL_get b k 15 (by omega), wL_get b k 6 (by omega), wL_get b k 14 (by omega), wL_get b k 1 (by omega)]
      rw [show k - 1 - 15 = k - 16 by omega, show k - 1 - 6 = k - 7 by omega, show k - 1 - 14 = k - 15 by omega, show k - 1 - 1 = k - 2 by omega]
  | k + 1, j + 1, h => by
    simp only [wL, List.getD_cons_succ]
    rw [wL_get b k j (by omega)]
    congr 1
    omega
theorem wL_len (b : List UInt8) : ∀ k, (wL b k).length = k
  | 0 => rfl
  | k + 1 => by simp [wL, wL_len b k]
/-- Rounds over two rows of words. -/
def goL : List UInt32 → List UInt32 → H8 → H8
  | k :: ks, w :: ws, v => goL ks ws (rnd v k w)
  | _, _, v => v
theorem goL_st (h : H8) (b : List UInt8) : ∀ (n i : Nat) (ks ws : List UInt32), ks.length = n → ws.length = n → (∀ j, j < n → ks.getD j 0 = kat (i + j)) → (∀ j, j < n → ws.getD j 0 = wk b (i + j)) → goL ks ws (st8 h b i) = st8 h b (i + n)
  | 0, i, ks, ws, h1, h2, _, _ => by
    rw [List.eq_nil_of_length_eq_zero h1]
    rfl
  | n + 1, i, k :: ks, w :: ws, h1, h2, h3, h4 => by
    have e1 := h3 0 (by omega)
    have e2 := h4 0 (by omega)
    simp only [List.getD_cons_zero, Nat.add_zero] at e1 e2
    simp only [goL]
    rw [e1, e2]
    have := goL_st h b n (i + 1) ks ws (by simpa using h1) (by simpa using h2) (fun j hj => by have := h3 (j + 1) (by omega); simp only [List.getD_cons_succ] at this; rw [this]; congr 1; omega) (fun j hj => by have := h4 (j + 1) (by omega); simp only [List.getD_cons_succ] at this; rw [this]; congr 1; omega)
    rw [show i + (n + 1) = i + 1 + n by omega, ← this]
    rfl
def pressC (h : H8) (b : List UInt8) : H8 := add8 h (goL kt (wL b 64).reverse h)
theorem pressC_eq (h : H8) (b : List UInt8) : pressC h b = pressS h b := by
  unfold pressC pressS
  have := goL_st h b 64 0 kt (wL b 64).reverse rfl (by simp [wL_len]) (fun j hj => by simp [kat]) (fun j hj => by
    rw [List.getD_eq_getElem?_getD, List.getElem?_reverse (by rw [wL_len]; exact hj), ← List.getD_eq_getElem?_getD, wL_len, wL_get b 64 _ (by omega)]
    congr 1
    omega)
  rw [Nat.zero_add] at this
  rw [← this]
  rfl
def absC (h : H8) (l : List UInt8) : Nat → H8
  | 0 => h
  | k + 1 => pressC (absC h l k) (l.drop (64 * k))
theorem absC_eq (h : H8) (l : List UInt8) : ∀ k, absC h l k = abs8 h l k
  | 0 => rfl
  | k + 1 => by simp only [absC, abs8, pressC_eq, absC_eq h l k]
def shaC (l : List UInt8) : List UInt8 := out8 (absC start8 (pad l) ((pad l).length / 64))
theorem shaC_eq (l : List UInt8) : shaC l = sha l := by unfold shaC sha; rw [absC_eq]
theorem sha_abc : gb (shaC [97, 98, 99]) 0 = 186 ∧ gb (shaC [97, 98, 99]) 1 = 120 ∧ gb (shaC [97, 98, 99]) 31 = 173 := by decide +kernel
end Go.Proofs.YtocfhkmdkdjinaaDoor

/- The law's stands: "abc" has its sum. Printed by wp.py. -/
namespace Go.Proofs.YtocfhkmdkdjinaaDoor
open Go Go.RowKit
set_option linter.unusedVariables false
set_option linter.unusedSimpArgs false
set_option maxRecDepth 100000
set_option maxHeartbeats 4000000
attribute [local irreducible] inR VC RG VCn sq inS lq nq jq Wk
attribute [local irreducible] sha
attribute [local simp] sha_length
theorem abcW : ∃ S, S = sha [97, 98, 99] ∧ gb S 0 = 186 ∧ gb S 31 = 173 ∧ S.length = 32 := by
  have h : gb (sha [97, 98, 99]) 0 = 186 ∧ gb (sha [97, 98, 99]) 1 = 120 ∧ gb (sha [97, 98, 99]) 31 = 173 := by rw [← shaC_eq]; exact sha_abc
  exact ⟨_, rfl, h.1, h.2.2, sha_length _⟩
theorem stands_abc (S : List UInt8) (hS : S = sha [97, 98, 99]) : FC Tryd.prog GS 78 [.rof 1 ([[97, 98, 99]] : List (List UInt8)).length (fun i _ => .rob (([[97, 98, 99]] : List (List UInt8)).getD i []))] (.aggb S) none := by
  subst hS
  exact Of_fc [[97, 98, 99]] (by decide) (by decide)

namespace Ustands_fc
theorem U : type_of% @sha_length ∧ type_of% (@drop_rep UInt8) ∧ type_of% (@drop_rep D) ∧ type_of% (@List.take_zero UInt8) ∧ type_of% (@List.take_zero D) := ⟨@sha_length, (@drop_rep UInt8), (@drop_rep D), (@List.take_zero UInt8), (@List.take_zero D)⟩
end Ustands_fc
open Ustands_fc
theorem stands_fc  : FC Tryd.prog GS 22 [] (.bool true) none := by
  refine fi_ 14 [0] ti_eq gpS Tryd.func22 (fun C hE hm hP hrc hrn => ?_)
  obtain ⟨S, hS, a1, a3, a4⟩ := abcW
  refine A_ ?_
  first | refine O_ ?_ | refine OD_ hm ?_
  refine G_ 200 hE ?_
  refine rc_ hE hP (stands_abc S hS) Tryd.func78 ?_
  clear hS
  refine G_ 200 hE ?_
  first | refine rz ?_ | refine ZD_ ?_
  rw [a4, drop_rep, List.append_nil]
  refine A_ ?_
  rw [a1, a3]
  exact ret_
end Go.Proofs.YtocfhkmdkdjinaaDoor
