import Derived.Test.YtdkmmkjjcceahaaEapA
namespace Go.Proofs.Ytdkmmkjjcceahaa
open Go.RowKit
set_option linter.unusedVariables false
theorem write_no (c i t : Int) (A : Option Addr) (n cap : Nat) (w : World) (hn : n ≤ 140737488355328) (hs : psize c i t n = 0) :
    Calls Try.prog 9 #[.agg #[.int .i64 c, .int .i64 i, .int .i64 t, .slice A n cap]] w fun e w' => e = .returned (.tuple #[.slice none 0 0, .int .i64 2]) ∧ Below w.heap.size w w' := by
  go_enter Try.func9, Try.ntmps9
  go_wp2_with fail
  refine (size_any _ _ _ _ _ _ (by omega) _).mono ?_
  rintro e w1 ⟨rfl, hb⟩
  rw [hs]
  clear hs
  have hb1 : Below w.heap.size w w1 := ((Below.refl _ _).alloc (Nat.le_refl _) _).trans (hb.mono (by simp))
  go_wp2_with fail
  go_ret2
  exact ⟨rfl, hb1⟩

theorem write_short (c i : Int) (A : Option Addr) (cap : Nat) (w : World) (hc : 3 ≤ c) (hc2 : c ≤ 4) (hi : 0 ≤ i) (hi2 : i ≤ 255) :
    Calls Try.prog 9 #[.agg #[.int .i64 c, .int .i64 i, .int .i64 0, .slice A 0 cap]] w (RetBOk w [b8 c, b8 i, 0, 4]) := by
  have hs : psize c i 0 0 = 4 := by unfold psize; rw [if_pos ⟨hi, hi2⟩, if_neg (by omega), if_pos (by omega)]
  go_enter Try.func9, Try.ntmps9
  go_wp2_with fail
  refine (size_any _ _ _ _ _ _ (by omega) _).mono ?_
  rintro e w1 ⟨rfl, hb⟩
  rw [hs]
  clear hs
  have hc1 : ∀ o, w1.cell? ⟨w.heap.size, o, none⟩ = #[Value.int .i64 c, .int .i64 i, .int .i64 0, .slice A 0 cap][o]? := fun o => by
    rw [hb.cell (p := ⟨w.heap.size, o, none⟩) (by simp)]; simp
  have hz1 : w.heap.size < w1.heap.size := by have := hb.size; simp at this; omega
  have hb1 : Below w.heap.size w w1 := ((Below.refl _ _).alloc (Nat.le_refl _) _).trans (hb.mono (by simp))
  have hb1s := hid hb1
  clear hb hb1
  go_wp2_with fail
  go_ret2
  refine ⟨_, 4, 4, rfl, ?_, hb1s.out.trans ((Below.refl _ _).alloc (by omega) _)⟩
  exact (Own.lit (E := 5) w1 (Nat.le_refl _) [b8 c, b8 i, 0, 4] (by simp [maxLen]) _ (by simp only [u8s, List.map]; rw [u8_b8 (x := c) (by omega) (by omega), u8_b8 (x := i) (by omega) (by omega)]; rfl) w1.heap.size 4 rfl rfl).lower (by omega)
end Go.Proofs.Ytdkmmkjjcceahaa
