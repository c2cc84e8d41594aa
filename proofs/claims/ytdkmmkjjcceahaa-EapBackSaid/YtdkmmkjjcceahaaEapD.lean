import Derived.Test.YtdkmmkjjcceahaaEapC
namespace Go.Proofs.Ytdkmmkjjcceahaa
open Go.RowKit
set_option linter.unusedVariables false
attribute [local go_sem ↓] run_slice_l' run_slice_lh' run_slice_h'
set_option maxHeartbeats 1000000 in
theorem read_four {B : Nat} (A : Option Addr) (cap : Nat) (l : List UInt8) (w : World) (rd : Rd w B A 4 cap l) (hlt : n2 l ≤ 4) :
    Calls Try.prog 13 #[.slice A 4 cap] w (RetRd w (n2 l = 4 ∧ psize (gb l 0).toNat (gb l 1).toNat 0 0 = 4) (gb l 0).toNat (gb l 1).toNat 0 []) := by
  obtain ⟨b, off, rfl, hbB, hc⟩ := rd.at_ (by omega)
  have hle := rd.le
  have hB := rd.bd
  have hbw : b < w.heap.size := by omega
  have c0 := hc 0 (by omega)
  have c1 := hc 1 (by omega)
  have c2 := hc 2 (by omega)
  have c3 := hc 3 (by omega)
  have q0 := u8_wf (gb l 0)
  have q1 := u8_wf (gb l 1)
  have q2 := u8_wf (gb l 2)
  have q3 := u8_wf (gb l 3)
  have hor := or16 (gb l 2).toNat (gb l 3).toNat (by omega) (by omega)
  unfold n2 at hlt
  unfold n2
  generalize (gb l 0).toNat = x0 at *
  generalize (gb l 1).toNat = x1 at *
  generalize (gb l 2).toNat = x2 at *
  generalize (gb l 3).toNat = x3 at *
  generalize x2 * 256 + x3 = m at *
  have hltI : (m : Int) ≤ 4 := by omega
  rw [Nat.add_zero] at c0
  clear hc
  go_enter Try.func13, Try.ntmps13
  go_wp2_with fail
  go_quiet (fail)
  refine then_abs (fun W => (Below w.heap.size w W ∧ Blk W w.heap.size 26 #[.int .i64 0, .int .i64 0, .int .i64 0, .slice none 0 0]) ∧ (∀ o, W.cell? ⟨b, o, none⟩ = w.cell? ⟨b, o, none⟩)) ⟨⟨below_drewN ((Below.refl _ _).alloc (Nat.le_refl _) _) _, (Blk.new _ _ _ rfl).drewN _⟩, fun o => (World.cell?_alloc_lt w _ ⟨b, o, none⟩ hbw)⟩ ?_
  rintro W ⟨⟨hb, hk⟩, hbc⟩
  have hb' := hid hb
  obtain ⟨k1, k2, k3⟩ := hk.facts
  have hbW : b < W.heap.size := by omega
  have hk' := hid hk
  clear hb hk
  go_wp2_with fail
  go_region
  refine then_abs (fun X => Below w.heap.size w X ∧ Blk X w.heap.size 26 #[.int .i64 0, .int .i64 0, .int .i64 0, .slice none 0 0] ∧ Blk X W.heap.size 26 #[.int .i64 x0, .int .i64 x1, .int .i64 0, .slice none 0 0]) ⟨((hb'.out.alloc (by omega) _).drew), (hk'.out.alloc _).drew, (Blk.new _ _ _ rfl).drew⟩ ?_
  rintro X ⟨hb2, hk2, hp2⟩
  have hb2' := hid hb2
  have hk2' := hid hk2
  obtain ⟨f1, f2, f3⟩ := hp2.facts
  obtain ⟨r1, r2, r3⟩ := hk2.facts
  clear hb2 hk2 hp2 hbc k1 k2
  generalize W.heap.size = H2 at *
  by_cases hmn : m = 4
  · subst hmn
    go_wp2_with fail
    refine (size_any _ _ _ _ _ _ (by omega) _).mono ?_
    rintro e w4 ⟨rfl, hb4⟩
    have hbF := hid (hb2'.out.trans (hb4.mono (by have := hb2'.out.size; omega)))
    obtain ⟨k1, k2, k3⟩ := (hk2'.out.ext hb4).facts
    have g1 : ∀ i, w4.cell? ⟨H2, i, none⟩ = #[Value.int .i64 x0, .int .i64 x1, .int .i64 0, .slice none 0 0][i]? := fun i => (hb4.cell (p := ⟨H2, i, none⟩) f3).trans (f1 i)
    clear hb4 f1 f2
    by_cases hs : psize x0 x1 0 0 = 4
    · rw [hs]
      have hs' := hid hs
      clear hs
      go_wp2_with fail
      refine bodyPost_ret (v := .tuple #[.agg #[.int .i64 x0, .int .i64 x1, .int .i64 0, .slice none 0 0], .int .i64 0]) (by simp [results, Try.results13, go_sem, k1]) rfl ⟨fun _ => ?_, fun h => absurd (And.intro (by first | rfl | trivial) hs'.out) h⟩
      refine ⟨none, 0, 0, rfl, Own.nil_ _ _ _, ?_⟩
      repeat (first | exact hbF.out | refine Below.setCell ?_ (by exact Nat.le_refl _) _)
    · have hs1 : (psize x0 x1 0 0 != 4) = true := by simpa using hs
      have hs' := hid hs
      clear hs
      go_wp2_with fail
      refine bodyPost_ret (v := .tuple #[.agg #[.int .i64 0, .int .i64 0, .int .i64 0, .slice none 0 0], .int .i64 2]) (by simp [results, Try.results13, go_sem, k1]) rfl ⟨fun h => absurd h.2 hs'.out, fun _ => ⟨rfl, ?_⟩⟩
      repeat (first | exact hbF.out | refine Below.setCell ?_ (by exact Nat.le_refl _) _)
  · have hmn1 : ((4 : Int) != (m : Int)) = true := by simp; omega
    have hmn' := hid hmn
    clear hmn
    go_wp2_with fail
    refine bodyPost_ret (v := .tuple #[.agg #[.int .i64 0, .int .i64 0, .int .i64 0, .slice none 0 0], .int .i64 2]) (by simp [results, Try.results13, go_sem, r1]) rfl ⟨fun h => absurd h.1 hmn'.out, fun _ => ⟨rfl, ?_⟩⟩
    repeat (first | exact hb2'.out | refine Below.setCell ?_ (by exact Nat.le_refl _) _)
end Go.Proofs.Ytdkmmkjjcceahaa
