import Derived.Test.YtdkmmkjjcceahaaEapA
namespace Go.Proofs.Ytdkmmkjjcceahaa
open Go.RowKit
set_option linter.unusedVariables false
attribute [local go_sem ↓] run_slice_l' run_slice_lh' run_slice_h'
/-- The size that bytes tell. -/
def n2 (l : List UInt8) : Nat := (gb l 2).toNat * 256 + (gb l 3).toNat

/-- It returns no packet, and an error. -/
def RetNoPk (w : World) (k : Int) (e : Ending) (w' : World) : Prop :=
  e = .returned (.tuple #[.agg #[.int .i64 0, .int .i64 0, .int .i64 0, .slice none 0 0], .int .i64 k]) ∧ Below w.heap.size w w'
/-- It returns a packet. -/
def RetPk (w : World) (c i t : Int) (l : List UInt8) (e : Ending) (w' : World) : Prop :=
  ∃ A n cap, e = .returned (.tuple #[.agg #[.int .i64 c, .int .i64 i, .int .i64 t, .slice A n cap], .int .i64 0]) ∧ Own w' w.heap.size 5 A n cap l ∧ Below w.heap.size w w'

theorem read_few (A : Option Addr) (n cap : Nat) (w : World) (h4 : n < 4) :
    Calls Try.prog 13 #[.slice A n cap] w (RetNoPk w 3) := by
  go_enter Try.func13, Try.ntmps13
  go_wp2_with fail
  exact bodyPost_ret (v := .tuple #[.agg #[.int .i64 0, .int .i64 0, .int .i64 0, .slice none 0 0], .int .i64 3]) (by simp [results, Try.results13, go_sem]) rfl ⟨rfl, (Below.refl _ _).alloc (Nat.le_refl _) _⟩

theorem read_tail {B : Nat} (A : Option Addr) (n cap : Nat) (l : List UInt8) (w : World) (rd : Rd w B A n cap l) (h4 : 4 ≤ n) (hn : n ≤ 140737488355328) (hlt : n < n2 l)  :
    Calls Try.prog 13 #[.slice A n cap] w (RetNoPk w 3) := by
  obtain ⟨b, off, rfl, hbB, hc⟩ := rd.at_ (by omega)
  have hB := rd.bd
  have hbw : b < w.heap.size := by omega
  have c2 := hc 2 (by omega)
  have c3 := hc 3 (by omega)
  have q2 := u8_wf (gb l 2)
  have q3 := u8_wf (gb l 3)
  have hor := or16 (gb l 2).toNat (gb l 3).toNat (by omega) (by omega)
  unfold n2 at hlt
  generalize (gb l 2).toNat = x2 at *
  generalize (gb l 3).toNat = x3 at *
  generalize x2 * 256 + x3 = m at *
  have i0 : (0 : Int) ≤ (n : Int) := by omega
  have i2 : (2 : Int) < (n : Int) := by omega
  have i3 : (3 : Int) < (n : Int) := by omega
  have hlt2 : (n : Int) < (m : Int) := by omega
  clear hc
  go_enter Try.func13, Try.ntmps13
  go_wp2_with fail
  go_quiet (fail)
  refine then_abs (fun W => Below w.heap.size w W ∧ Blk W w.heap.size 26 #[.int .i64 0, .int .i64 0, .int .i64 0, .slice none 0 0]) ⟨below_drewN ((Below.refl _ _).alloc (Nat.le_refl _) _) _, (Blk.new _ _ _ rfl).drewN _⟩ ?_
  rintro W ⟨hb, hk⟩
  have hb' := hid hb
  obtain ⟨k1, k2, k3⟩ := hk.facts
  clear hb hk
  go_wp2_with fail
  refine bodyPost_ret (v := .tuple #[.agg #[.int .i64 0, .int .i64 0, .int .i64 0, .slice none 0 0], .int .i64 3]) (by simp [results, Try.results13, go_sem, k1]) rfl ⟨rfl, ?_⟩
  repeat (first | exact hb'.out | refine Below.setCell ?_ (by exact Nat.le_refl _) _)

/-- The packet that bytes tell is in form, and of their size. -/
def form (l : List UInt8) : Prop := n2 l = l.length ∧ if l.length = 4 then psize (gb l 0).toNat (gb l 1).toNat 0 0 = 4 else psize (gb l 0).toNat (gb l 1).toNat (gb l 4).toNat (l.length - 5) = l.length
def RetRd (w : World) (ok : Prop) (c i t : Int) (l : List UInt8) (e : Ending) (w' : World) : Prop :=
  (ok → RetPk w c i t l e w') ∧ (¬ ok → RetNoPk w 2 e w')

set_option maxHeartbeats 1000000 in
theorem read_five {B : Nat} (A : Option Addr) (n cap : Nat) (l : List UInt8) (w : World) (rd : Rd w B A n cap l) (hn : n ≤ 140737488355328) (h4 : 5 ≤ n) (hlt : n2 l ≤ n) :
    Calls Try.prog 13 #[.slice A n cap] w (RetRd w (n2 l = n ∧ psize (gb l 0).toNat (gb l 1).toNat (gb l 4).toNat (n - 5) = n) (gb l 0).toNat (gb l 1).toNat (gb l 4).toNat (l.drop 5)) := by
  have rd5 := rd.cut (k := 5) (by omega)
  obtain ⟨b, off, rfl, hbB, hc⟩ := rd.at_ (by omega)
  have hle := rd.le
  have hB := rd.bd
  have hbw : b < w.heap.size := by omega
  have c0 := hc 0 (by omega)
  have c1 := hc 1 (by omega)
  have c2 := hc 2 (by omega)
  have c3 := hc 3 (by omega)
  have c4 := hc 4 (by omega)
  have q0 := u8_wf (gb l 0)
  have q1 := u8_wf (gb l 1)
  have q2 := u8_wf (gb l 2)
  have q3 := u8_wf (gb l 3)
  have q4 := u8_wf (gb l 4)
  have hor := or16 (gb l 2).toNat (gb l 3).toNat (by omega) (by omega)
  unfold n2 at hlt
  unfold n2
  generalize (gb l 0).toNat = x0 at *
  generalize (gb l 1).toNat = x1 at *
  generalize (gb l 2).toNat = x2 at *
  generalize (gb l 3).toNat = x3 at *
  generalize (gb l 4).toNat = x4 at *
  generalize x2 * 256 + x3 = m at *
  have hltI : (m : Int) ≤ (n : Int) := by omega
  have i00 : 0 < n := by omega
  rw [Nat.add_zero] at c0
  have i0 : (0 : Int) ≤ (n : Int) := by omega
  have i1 : (1 : Int) < (n : Int) := by omega
  have i2 : (2 : Int) < (n : Int) := by omega
  have i3 : (3 : Int) < (n : Int) := by omega
  have i4 : (4 : Int) < (n : Int) := by omega
  have i5 : (5 : Int) ≤ (n : Int) := by omega
  have i6 : (n : Int) ≤ (cap : Int) := by omega
  clear hc
  go_enter Try.func13, Try.ntmps13
  go_wp2_with fail
  go_quiet (fail)
  refine then_abs (fun W => (Below w.heap.size w W ∧ Blk W w.heap.size 26 #[.int .i64 0, .int .i64 0, .int .i64 0, .slice none 0 0]) ∧ (∀ o, W.cell? ⟨b, o, none⟩ = w.cell? ⟨b, o, none⟩)) ⟨⟨below_drewN ((Below.refl _ _).alloc (Nat.le_refl _) _) _, (Blk.new _ _ _ rfl).drewN _⟩, fun o => (World.cell?_alloc_lt w _ ⟨b, o, none⟩ hbw)⟩ ?_
  rintro W ⟨⟨hb, hk⟩, hbc⟩
  have hb' := hid hb
  obtain ⟨k1, k2, k3⟩ := hk.facts
  have hbW : b < W.heap.size := by omega
  have hk' := hid hk
  clear hb hk
  go_wp2_with fail
  go_region
  go_wp2_with fail
  refine wp_abs (fun X => Below w.heap.size w X ∧ Blk X w.heap.size 26 #[.int .i64 0, .int .i64 0, .int .i64 0, .slice none 0 0] ∧ Blk X W.heap.size 26 #[.int .i64 x0, .int .i64 x1, .int .i64 0, .slice none 0 0]) ⟨((hb'.out.alloc (by omega) _).drew), (hk'.out.alloc _).drew, (Blk.new _ _ _ rfl).drew⟩ ?_
  rintro X ⟨hb2, hk2, hp2⟩
  have hb2' := hid hb2
  have hk2' := hid hk2
  have hp2' := hid hp2
  have rdX := rd5.below hb2 hB
  have cX := (hb2.cell (p := ⟨b, off + 4, none⟩) hbw).trans c4
  have hWX := hp2.lt
  have hbX : b < X.heap.size := by omega
  have hne : w.heap.size ≠ W.heap.size := by omega
  clear hb2 hk2 hp2 hbc k1 k2
  generalize W.heap.size = H2 at *
  have hw4 : IntKind.i64.wrap (x4 : Int) = x4 := by rw [IntKind.wrap_i64]; omega
  go_region_held3 (fun w' => Below w.heap.size X w' ∧ (w'.cell? ⟨b, off + 4, none⟩ = some (.int .u8 x4)))
    (first
      | ((refine keepS1 hbw cX ?_; (repeat (first | assumption | exact And.left (by assumption) | exact Below.refl _ _ | refine Below.drew ?_ | refine Below.setCell ?_ (by simp; omega) _ | refine Below.alloc ?_ (by simp; omega) _));  done))
      | (exact keepS1 hbw cX (Below.trans (And.left (by assumption)) (hb3.mono (by simp; omega)))))
    (first
      | (go_at_call 17; refine (clone_any _ _ _ _ _ (rdX.below (And.left (by assumption)) hB) (by omega)).mono ?_; rintro e w3 ⟨A3, m3, q3, rfl, own3, hb3⟩; obtain ⟨f1, f2, f3⟩ := (Blk.ext (Blk.drew hp2'.out) hb3).facts; have hk3 := hid (Blk.ext (Blk.drew hk2'.out) hb3); have hp3 := hid (Blk.ext (Blk.drew hp2'.out) hb3); have hn3 := own3.len; have hB3 : Below X.heap.size X w3 := below_of_drew hb3))
  have hbw : w.heap.size ≤ X.heap.size := by have := hb2'.out.size; omega
  have hbl : Below w.heap.size w ((w3.setCell ⟨H2, 2, none⟩ (Value.int IntKind.i64 ↑x4)).setCell ⟨H2, 3, none⟩ (Value.slice A3 m3 q3)) := ((hb2'.out.trans (hB3.mono hbw)).setCell (by simp; omega) _).setCell (by simp; omega) _
  have hkl := Blk.far (p := ⟨H2, 3, none⟩) (Blk.far (p := ⟨H2, 2, none⟩) hk3.out hne (.int .i64 x4)) hne (.slice A3 m3 q3)
  have hpl := Blk.set_ (Blk.set_ hp3.out 2 (.int .i64 x4)) 3 (.slice A3 m3 q3)
  have ownl : Own ((w3.setCell ⟨H2, 2, none⟩ (Value.int IntKind.i64 ↑x4)).setCell ⟨H2, 3, none⟩ (Value.slice A3 m3 q3)) X.heap.size 5 A3 m3 q3 (l.drop 5) := Own.far (p := ⟨H2, 3, none⟩) (Own.far (p := ⟨H2, 2, none⟩) own3 hWX _) hWX _
  have hbl' := hid hbl
  have hkl' := hid hkl
  have hpl' := hid hpl
  have ownl' := hid ownl
  have hn3' := hid hn3
  have hm3 : m3 = n - 5 := by rw [← hn3, List.length_drop, rd.len]
  have hm3u : m3 ≤ 140737488355328 := by omega
  have hm3' := hid hm3
  clear hm3
  clear hbl hkl hpl ownl own3 hn3 hB3
  by_cases hmn : m = n
  · subst hmn
    go_wp2_with fail
    refine (size_any _ _ _ _ _ _ hm3u _).mono ?_
    rintro e w4 ⟨rfl, hb4⟩
    have hbF := hid (hbl'.out.trans (hb4.mono (by have := hbl'.out.size; omega)))
    obtain ⟨k1, k2, k3⟩ := (hkl'.out.ext hb4).facts
    obtain ⟨p1, p2, p3⟩ := (hpl'.out.ext hb4).facts
    have ownF := hid (ownl'.out.ext hb4)
    clear hb4 f1 f2
    by_cases hs : psize x0 x1 x4 m3 = m
    · rw [hs]
      have hs' := hid hs
      clear hs
      go_wp2_with fail
      refine bodyPost_ret (v := .tuple #[.agg #[.int .i64 x0, .int .i64 x1, .int .i64 x4, .slice A3 m3 q3], .int .i64 0]) (by simp [results, Try.results13, go_sem, k1]) rfl ⟨fun _ => ?_, fun h => absurd (And.intro (by first | rfl | trivial) (by rw [← hm3'.out]; exact hs'.out)) h⟩
      refine ⟨A3, m3, q3, rfl, ?_, ?_⟩
      · exact Own.lower (B := X.heap.size) (by repeat (first | exact ownF.out | refine Own.far ?_ (by simp; omega) _)) (by have := hb2'.out.size; omega)
      · repeat (first | exact hbF.out | refine Below.setCell ?_ (by exact Nat.le_refl _) _)
    · have hs1 : (psize x0 x1 x4 m3 != (m : Int)) = true := by simpa using hs
      have hs' := hid hs
      clear hs
      go_wp2_with fail
      refine bodyPost_ret (v := .tuple #[.agg #[.int .i64 0, .int .i64 0, .int .i64 0, .slice none 0 0], .int .i64 2]) (by simp [results, Try.results13, go_sem, k1]) rfl ⟨fun h => absurd h.2 (by rw [← hm3'.out]; exact hs'.out), fun _ => ⟨rfl, ?_⟩⟩
      repeat (first | exact hbF.out | refine Below.setCell ?_ (by exact Nat.le_refl _) _)
  · have hmn1 : ((n : Int) != (m : Int)) = true := by simp; omega
    have hmn' := hid hmn
    obtain ⟨k1, k2, k3⟩ := hkl'.out.facts
    clear hmn f1 f2
    generalize hZ : ((w3.setCell ⟨H2, 2, none⟩ (Value.int IntKind.i64 ↑x4)).setCell ⟨H2, 3, none⟩ (Value.slice A3 m3 q3)) = Z at *
    clear hZ
    go_wp2_with fail
    refine bodyPost_ret (v := .tuple #[.agg #[.int .i64 0, .int .i64 0, .int .i64 0, .slice none 0 0], .int .i64 2]) (by simp [results, Try.results13, go_sem, k1]) rfl ⟨fun h => absurd h.1 hmn'.out, fun _ => ⟨rfl, ?_⟩⟩
    repeat (first | exact hbl'.out | refine Below.setCell ?_ (by exact Nat.le_refl _) _)
end Go.Proofs.Ytdkmmkjjcceahaa
