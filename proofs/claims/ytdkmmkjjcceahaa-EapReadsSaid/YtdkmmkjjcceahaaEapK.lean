import Derived.Test.YtdkmmkjjcceahaaEapI
namespace Go.Proofs.Ytdkmmkjjcceahaa
open Go.RowKit
set_option linter.unusedVariables false
set_option linter.unusedSimpArgs false
attribute [local go_sem ↓] run_slice_l' run_slice_lh' run_slice_h' run_index_str run_slice_str_l run_slice_str_h run_slice_str_lh
attribute [local go_sem] str_size str_append str_toL Lib.run_eql_slice_nil
set_option maxHeartbeats 1000000 in
theorem refRead_end (l : List UInt8) (w : World) (hn : l.length ≤ 140737488355328) (h4 : 4 ≤ l.length) (hlt : n2 l ≤ l.length) (hc : 3 ≤ (gb l 0).toNat) :
    Calls Try.prog 14 #[.string (str l)] w (RetRdR w (psize (gb l 0).toNat (gb l 1).toNat 0 0 ≠ 0 ∧ pbytes (gb l 0).toNat (gb l 1).toNat 0 [] = l) (gb l 0).toNat (gb l 1).toNat 0 []) := by
  have q0 := u8_wf (gb l 0)
  have q1 := u8_wf (gb l 1)
  have q2 := u8_wf (gb l 2)
  have q3 := u8_wf (gb l 3)
  have i0 : (0 : Int) < (l.length : Int) := by omega
  have hix : ∀ W : World, (Instr.index 9 (.string (str l)) (.int .i64 0)).run Try.prog W = .ok (.int .u8 ((gb l 0).toNat : Int)) W := fun W => run_index_str 9 l .i64 0 Try.underlying9 (by omega) (by omega)
  have i1 : (1 : Int) < (l.length : Int) := by omega
  have i2 : (2 : Int) < (l.length : Int) := by omega
  have i3 : (3 : Int) < (l.length : Int) := by omega
  have i6 : (4 : Int) ≤ (l.length : Int) := by omega
  have hcI : 3 ≤ ((gb l 0).toNat : Int) := by omega
  unfold n2 at hlt
  have hltI : ((gb l 2).toNat : Int) * 256 + ((gb l 3).toNat : Int) ≤ (l.length : Int) := by omega
  have w2 : IntKind.i64.wrap ((gb l 2).toNat : Int) = (gb l 2).toNat := w64 (by omega) (by omega)
  have w3 : IntKind.i64.wrap ((gb l 3).toNat : Int) = (gb l 3).toNat := w64 (by omega) (by omega)
  have ws : IntKind.i64.wrap (((gb l 2).toNat : Int) * 256 + ((gb l 3).toNat : Int)) = ((gb l 2).toNat : Int) * 256 + ((gb l 3).toNat : Int) := w64 (by omega) (by omega)
  have ws2 : IntKind.i64.wrap (((gb l 2).toNat : Int) * 256) = ((gb l 2).toNat : Int) * 256 := w64 (by omega) (by omega)
  go_enter Try.func14, Try.ntmps14
  go_wp2_with fail
  go_quiet (fail)
  clear w2 w3 ws ws2
  refine then_abs (fun W => Below w.heap.size w W ∧ Blk W w.heap.size 23 #[.int .i64 0, .int .i64 0, .int .i64 0, .string ⟨#[]⟩]) ⟨below_drewN ((Below.refl _ _).alloc (Nat.le_refl _) _) _, (Blk.new _ _ _ rfl).drewN _⟩ ?_
  rintro W ⟨hb, hk⟩
  have hb' := hid hb
  have hk' := hid hk
  have k3 := hk.lt
  clear hb hk
  go_wp2_with fail
  go_region
  generalize (gb l 0).toNat = x0 at *
  generalize (gb l 1).toNat = x1 at *
  refine then_abs (fun X => Below w.heap.size w X ∧ Blk X w.heap.size 23 #[.int .i64 0, .int .i64 0, .int .i64 0, .string ⟨#[]⟩] ∧ Blk X W.heap.size 23 #[.int .i64 x0, .int .i64 x1, .int .i64 0, .string ⟨#[]⟩]) ⟨((hb'.out.alloc (by omega) _).drew), ((hk'.out.alloc _).drew), ((Blk.new _ _ _ rfl).drew)⟩ ?_
  rintro X ⟨hb2, hk2, hp2⟩
  have hb2' := hid hb2
  have hk2' := hid hk2
  have hp2' := hid hp2
  obtain ⟨f1, f2, f3⟩ := hp2.facts
  clear hb2 hk2 hp2 hltI
  generalize W.heap.size = H2 at *
  go_wp2_with fail
  by_cases hs : psize x0 x1 0 0 = 0
  · refine (refWrite_no x0 x1 0 [] _ (by simp) hs).mono ?_
    rintro e w4 ⟨rfl, hb4⟩
    have hbF := hid (hb2'.out.trans (hb4.mono (by have := hb2'.out.size; omega)))
    obtain ⟨k1, k2, k3⟩ := (hk2'.out.ext hb4).facts
    have hs' := hid hs
    clear hb4 hs f1 f2
    go_wp2_with fail
    refine bodyPost_ret (v := .tuple #[.agg #[.int .i64 0, .int .i64 0, .int .i64 0, .string (str [])], .int .i64 2]) (by simp [results, Try.results14, go_sem, k1]; rfl) rfl ⟨fun h => absurd hs'.out h.1, fun _ => ⟨rfl, ?_⟩⟩
    repeat (first | exact hbF.out | refine Below.setCell ?_ (by exact Nat.le_refl _) _)
  · refine (refWrite_yes x0 x1 0 [] _ hs).mono ?_
    rintro e w4 ⟨rfl, hb4⟩
    have hbF := hid (hb2'.out.trans (hb4.mono (by have := hb2'.out.size; omega)))
    obtain ⟨k1, k2, k3⟩ := (hk2'.out.ext hb4).facts
    obtain ⟨p1, p2, p3⟩ := (hp2'.out.ext hb4).facts
    have hs' := hid hs
    clear hb4 hs f1 f2
    by_cases hq : pbytes x0 x1 0 [] = l
    · have hq1 : (!(pbytes x0 x1 0 [] == l)) = false := by simp [hq]
      have hq' := hid hq
      clear hq
      go_wp2_with fail
      refine bodyPost_ret (v := .tuple #[.agg #[.int .i64 x0, .int .i64 x1, .int .i64 0, .string (str [])], .int .i64 0]) (by simp [results, Try.results14, go_sem, k1]; rfl) rfl ⟨fun _ => ⟨rfl, ?_⟩, fun h => absurd ⟨hs'.out, hq'.out⟩ h⟩
      repeat (first | exact hbF.out | refine Below.setCell ?_ (by exact Nat.le_refl _) _)
    · have hq1 : (!(pbytes x0 x1 0 [] == l)) = true := by simp [hq]
      have hq' := hid hq
      clear hq
      go_wp2_with fail
      refine bodyPost_ret (v := .tuple #[.agg #[.int .i64 0, .int .i64 0, .int .i64 0, .string (str [])], .int .i64 2]) (by simp [results, Try.results14, go_sem, k1]; rfl) rfl ⟨fun h => absurd h.2 hq'.out, fun _ => ⟨rfl, ?_⟩⟩
      repeat (first | exact hbF.out | refine Below.setCell ?_ (by exact Nat.le_refl _) _)
end Go.Proofs.Ytdkmmkjjcceahaa
