import Derived.Test.YtdkmmkjjcceahaaEapF
namespace Go.Proofs.Ytdkmmkjjcceahaa
open Go.RowKit
set_option linter.unusedVariables false
set_option linter.unusedSimpArgs false
attribute [local go_sem ↓] run_slice_l' run_slice_lh' run_slice_h' run_index_str run_slice_str_l run_slice_str_h run_slice_str_lh
attribute [local go_sem] str_size str_append str_toL Lib.run_eql_slice_nil
theorem to_any (c i t : Int) (l : List UInt8) (hl : l.length ≤ 140737488355328) (w : World) :
    Calls Try.prog 8 #[.agg #[.int .i64 c, .int .i64 i, .int .i64 t, .string (str l)]] w fun e w' => ∃ A cap, e = .returned (.agg #[.int .i64 c, .int .i64 i, .int .i64 t, .slice A l.length cap]) ∧ Own w' w.heap.size 5 A l.length cap l ∧ Below w.heap.size w w' := by
  go_enter Try.func8, Try.ntmps8
  go_wp2_with (refine wpList_bytes_of_str _ rfl (.tmp 10) bt 9 Try.underlying9 rfl l rfl hl ?_; intro cap w1 own hb hz; have kb := (Blk.below (Blk.new (w.alloc (.cells #[.int .i64 c, .int .i64 i, .int .i64 t, .string (str l)] 23)) 26 #[.int .i64 0, .int .i64 0, .int .i64 0, .slice none 0 0] rfl) hb (by simp)).facts; obtain ⟨k1, k2, k3⟩ := kb; simp only [World.size_alloc] at k1 k2 k3; clear hz)
  refine bodyPost_ret (v := .agg #[.int .i64 c, .int .i64 i, .int .i64 t, .slice (some ⟨w.heap.size + 1 + 1, 0, none⟩) l.length cap]) (by simp [results, Try.results8, go_sem, k1, k2, k3]) rfl ⟨_, cap, rfl, ?_, ?_⟩
  · simp only [World.size_alloc] at own
    exact Own.lower (B := w.heap.size + 1 + 1) (by repeat (first | with_reducible exact own | refine Own.far ?_ (by first | omega | (simp; done) | (simp; omega)) _)) (by omega)
  · have hb0 : Below w.heap.size w w1 := (((Below.refl _ _).alloc (Nat.le_refl _) _).alloc (by simp) _).trans (hb.mono (by simp; omega))
    repeat (first | with_reducible exact hb0 | refine Below.setCell ?_ (by first | omega | (simp; done) | (simp; omega)) _)

theorem from_any {B : Nat} (c i t : Int) (A : Option Addr) (n cap : Nat) (l : List UInt8) (w : World) (rd : Rd w B A n cap l) :
    Calls Try.prog 12 #[.agg #[.int .i64 c, .int .i64 i, .int .i64 t, .slice A n cap]] w fun e w' => e = .returned (.agg #[.int .i64 c, .int .i64 i, .int .i64 t, .string (str l)]) ∧ Below w.heap.size w w' := by
  have hst := run_str_of_bytes (P := Try.prog) _ bt 9 Try.underlying9 A n cap _ ((rd.alloc (.cells #[.int .i64 c, .int .i64 i, .int .i64 t, .slice A n cap] 26)).alloc (.cells #[.int .i64 0, .int .i64 0, .int .i64 0, .string ⟨#[]⟩] 23))
  go_enter Try.func12, Try.ntmps12
  go_wp2_with fail
  refine bodyPost_ret (v := .agg #[.int .i64 c, .int .i64 i, .int .i64 t, .string (str l)]) (by simp [results, Try.results12, go_sem]) rfl ⟨rfl, ?_⟩
  repeat (first | exact Below.refl _ _ | refine Below.setCell ?_ (by first | omega | (simp; done) | (simp; omega)) _ | refine Below.alloc ?_ (by first | omega | (simp; done) | (simp; omega)) _)
end Go.Proofs.Ytdkmmkjjcceahaa
