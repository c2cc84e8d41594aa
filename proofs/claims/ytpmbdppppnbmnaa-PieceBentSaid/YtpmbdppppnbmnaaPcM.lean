/- Pieces of a flight, in plain Lean. -/
import Derived.Test.YtpmbdppppnbmnaaPc6
namespace Go.Proofs.Ytpmbdppppnbmnaa
open Go Go.RowKit
set_option linter.unusedVariables false

theorem n4_len (n : Nat) : (n4 n).length = 4 := rfl
theorem splitE_ok {f : List UInt8} {s : Nat} (h1 : 16 ≤ s) (h2 : s ≤ 4000) : splitE f s = if 32768 < f.length then 4 else 0 := by
  unfold splitE
  rw [if_neg (by omega)]
  split <;> split <;> first | rfl | omega
theorem splitP_ok {f : List UInt8} {s : Nat} (h1 : 16 ≤ s) (h2 : s ≤ 4000) (h3 : f.length ≤ 32768) : splitP f s = splitL f s ∧ splitE f s = 0 := by
  have : splitE f s = 0 := by rw [splitE_ok h1 h2, if_neg (by omega)]
  refine ⟨?_, this⟩
  unfold splitP
  rw [if_pos this, Int.toNat_natCast]
theorem splitP_big {f : List UInt8} {s : Nat} (h1 : 16 ≤ s) (h2 : s ≤ 4000) (h3 : 32768 < f.length) : splitP f s = [] ∧ splitE f s = 4 := by
  have : splitE f s = 4 := by rw [splitE_ok h1 h2, if_pos h3]
  refine ⟨?_, this⟩
  unfold splitP
  rw [if_neg (by rw [this]; decide)]
theorem splitL_one {f : List UInt8} {s : Nat} (h : f.length ≤ s - 1) : splitL f s = [0 :: f] := by unfold splitL; rw [if_pos h]
/-- How many there are. -/
def splitK (f : List UInt8) (s : Nat) : Nat := pcN (f.length - (s - 5)) (s - 1)
theorem splitL_many {f : List UInt8} {s : Nat} (h : ¬ f.length ≤ s - 1) : splitL f s = rawI f s (List.range (splitK f s)) ++ [(rawE f s (List.range (splitK f s))).set 0 0] := by unfold splitL splitK; rw [if_neg h]
theorem splitL_len {f : List UInt8} {s : Nat} (h : ¬ f.length ≤ s - 1) : (splitL f s).length = splitK f s + 1 := by rw [splitL_many h, List.length_append, rawI_len, List.length_range]; rfl
theorem splitK_pos {f : List UInt8} {s : Nat} (h1 : 16 ≤ s) (h : ¬ f.length ≤ s - 1) : 0 < splitK f s := (pcN_lt (by omega)).2 (by omega)
theorem pc_full {l : List UInt8} {n k : Nat} (h : (k + 1) * n ≤ l.length) : (pc l n k).length = n := by
  unfold pc
  rw [List.length_take, List.length_drop]
  rw [Nat.add_mul, Nat.one_mul] at h
  omega
/-- All but the last one: the first, and the full ones. -/
theorem rawI_range (f : List UInt8) (s K : Nat) (h : 0 < K) : rawI f s (List.range K) = hdL f s :: (List.range (K - 1)).map (pk f s) := by
  obtain ⟨k, rfl⟩ : ∃ k, K = k + 1 := ⟨K - 1, by omega⟩
  rw [List.range_succ, (rawI_s f s (List.range k) k).1]
  rfl
theorem rawE_range (f : List UInt8) (s K : Nat) (h : 0 < K) : rawE f s (List.range K) = pk f s (K - 1) := by
  obtain ⟨k, rfl⟩ : ∃ k, K = k + 1 := ⟨K - 1, by omega⟩
  rw [List.range_succ, (rawI_s f s (List.range k) k).2]
  rfl
theorem hdL_len {f : List UInt8} {s : Nat} (h1 : 16 ≤ s) (h : ¬ f.length ≤ s - 1) : (hdL f s).length = s := by
  simp [hdL, n4_len]
  omega
theorem full_lt {f : List UInt8} {s k : Nat} (h1 : 16 ≤ s) (h : k + 1 < splitK f s) : (k + 1) * (s - 1) ≤ (f.drop (s - 5)).length := by
  have := (pcN_lt (m := f.length - (s - 5)) (n := s - 1) (k := k + 1) (by omega)).1 h
  rw [List.length_drop]
  omega
theorem pk_len {f : List UInt8} {s k : Nat} (h1 : 16 ≤ s) (h : k + 1 < splitK f s) : (pk f s k).length = s := by
  unfold pk
  rw [List.length_cons, pc_full (full_lt h1 h)]
  omega
/-- Each but the last one is full. -/
theorem splitL_full {f : List UInt8} {s i : Nat} (h1 : 16 ≤ s) (h : ¬ f.length ≤ s - 1) (hi : i < splitK f s) : ((splitL f s).getD i []).length = s := by
  have hp := splitK_pos h1 h
  rw [splitL_many h, rawI_range _ _ _ hp, List.getD_eq_getElem?_getD, List.getElem?_append_left (by simp; omega)]
  rcases i with _ | i
  · simp [hdL_len h1 h]
  · rw [List.getElem?_cons_succ, List.getElem?_map, List.getElem?_range (by omega)]
    exact pk_len h1 hi
end Go.Proofs.Ytpmbdppppnbmnaa
