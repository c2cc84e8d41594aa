import Derived.Test.YtdkmmkjjcceahaaEapB
namespace Go.Proofs.Ytdkmmkjjcceahaa
open Go.RowKit
set_option linter.unusedVariables false
set_option linter.unusedSimpArgs false
attribute [local go_sem ↓] run_slice_l' run_slice_lh' run_slice_h' run_index_str run_slice_str_l run_slice_str_h run_slice_str_lh
attribute [local go_sem] str_size str_append str_toL Lib.run_eql_slice_nil
def rgt (c i t : Int) (n : Nat) : Bool := decide (psize c i t n ≠ 0)
theorem rgt_yes {c i t : Int} {n : Nat} (h : psize c i t n ≠ 0) : rgt c i t n = true := by simp [rgt, h]
theorem rgt_no {c i t : Int} {n : Nat} (h : psize c i t n = 0) : rgt c i t n = false := by simp [rgt, h]
theorem psize_ne (c i t : Int) (n : Nat) : psize c i t n ≠ 0 ↔ (0 ≤ i ∧ i ≤ 255) ∧ (((c = 1 ∨ c = 2) ∧ 1 ≤ t ∧ t ≤ 255 ∧ n ≤ 4091) ∨ ((c = 3 ∨ c = 4) ∧ t = 0 ∧ n = 0)) := by
  unfold psize
  by_cases h1 : 0 ≤ i ∧ i ≤ 255
  · rw [if_pos h1]
    by_cases h2 : c = 1 ∨ c = 2
    · rw [if_pos h2]
      by_cases h3 : 1 ≤ t ∧ t ≤ 255 ∧ n ≤ 4091
      · rw [if_pos h3]; simp [h1, h2, h3]; omega
      · rw [if_neg h3]; simp [h1, h2, h3]; omega
    · rw [if_neg h2]
      by_cases h3 : (c = 3 ∨ c = 4) ∧ t = 0 ∧ n = 0
      · rw [if_pos h3]; simp [h1, h3]
      · rw [if_neg h3]; simp [h1, h2, h3]
  · rw [if_neg h1]; simp [h1]
theorem rgt_eq {c i t : Int} {n : Nat} {b : Bool} (h : b = true ↔ (0 ≤ i ∧ i ≤ 255) ∧ (((c = 1 ∨ c = 2) ∧ 1 ≤ t ∧ t ≤ 255 ∧ n ≤ 4091) ∨ ((c = 3 ∨ c = 4) ∧ t = 0 ∧ n = 0))) : Ending.returned (.bool b) = .returned (.bool (rgt c i t n)) := by
  have : b = rgt c i t n := by
    rw [Bool.eq_iff_iff, h, ← psize_ne]
    simp [rgt]
  rw [this]

set_option maxHeartbeats 400000 in
theorem right_any (c i t : Int) (l : List UInt8) (hn : l.length ≤ 140737488355328) (w : World) :
    Calls Try.prog 16 #[.agg #[.int .i64 c, .int .i64 i, .int .i64 t, .string (str l)]] w fun e w' => e = .returned (.bool (rgt c i t l.length)) ∧ Below w.heap.size w w' := by
  go_enter Try.func16, Try.ntmps16
  go_wp2
  all_goals (go_ret; refine ⟨rgt_eq ?_, (Below.refl _ _).alloc (Nat.le_refl _) _⟩)
  all_goals try (simp only [beq_iff_eq, beq_eq_false_iff_ne, Bool.not_eq_true', Bool.not_eq_false', decide_eq_true_eq, decide_eq_false_iff_not, ne_eq, List.isEmpty_iff, ← List.length_eq_zero_iff] at *)
  all_goals (first | omega | (simp <;> omega))
end Go.Proofs.Ytdkmmkjjcceahaa
