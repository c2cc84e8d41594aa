import Derived.Test.YtdkmmkjjcceahaaEapF
namespace Go.Proofs.Ytdkmmkjjcceahaa
open Go.RowKit
set_option linter.unusedVariables false
set_option linter.unusedSimpArgs false
attribute [local go_sem ↓] run_slice_l' run_slice_lh' run_slice_h' run_index_str run_slice_str_l run_slice_str_h run_slice_str_lh
attribute [local go_sem] str_size str_append str_toL Lib.run_eql_slice_nil
theorem eaps_any (w : World) : Calls Try.prog 11 #[] w fun e w' => e = .returned (.bool true) ∧ Below w.heap.size w w' := by
  have kc := fun (w : World) (C : Array Value) (n c : Nat) => Lib.run_convert_bytes_const (P := Try.prog) w 24 5 C n c Try.underlying24 Try.underlying5
  go_enter Try.func11, Try.ntmps11
  go_wp2_with fail
  refine (write_yes 2 7 1 _ 3 3 [98, 111, 98] _ (Rd.const w #[.int .u8 98, .int .u8 111, .int .u8 98] 5 (3, 4) [98, 111, 98] rfl w.heap.size 3 rfl rfl (by simp [maxLen])) (by decide)).mono ?_
  rintro e w1 ⟨A, n, cap, rfl, own, hb⟩
  rw [show pbytes 2 7 1 [98, 111, 98] = [2, 7, 0, 8, 1, 98, 111, 98] from by decide] at own
  have hst := run_str_of_bytes (P := Try.prog) w1 bt 9 Try.underlying9 A n cap _ own.rd
  have hb1 := hid (((Below.refl _ _).alloc (Nat.le_refl _) _).trans (hb.mono (by simp)))
  clear own hb
  go_wp2_with fail
  go_ret
  exact ⟨rfl, hb1.out⟩
end Go.Proofs.Ytdkmmkjjcceahaa
