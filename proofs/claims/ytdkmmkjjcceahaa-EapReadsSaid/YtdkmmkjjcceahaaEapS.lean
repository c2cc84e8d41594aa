/- The walk of EapReads. No condition. -/
import Derived.Test.YtdkmmkjjcceahaaEapG
import Derived.Test.YtdkmmkjjcceahaaEapH
import Derived.Test.YtdkmmkjjcceahaaEapN
namespace Go.Proofs.Ytdkmmkjjcceahaa
open Go.RowKit
set_option linter.unusedVariables false
set_option linter.unusedSimpArgs false
attribute [local go_sem ↓] run_slice_l' run_slice_lh' run_slice_h' run_index_str run_slice_str_l run_slice_str_h run_slice_str_lh
attribute [local go_sem] str_size str_append str_toL Lib.run_eql_slice_nil
set_option maxHeartbeats 2000000 in
theorem reads_any {B : Nat} (A : Option Addr) (n cap : Nat) (l0 : List UInt8) (w : World) (rd0 : Rd w B A n cap l0) :
    Calls Try.prog 6 #[.slice A n cap] w fun e w' => e = .returned (.bool true) ∧ Below w.heap.size w w' := by
  obtain ⟨m, hm⟩ : ∃ m, m = min n 5000 := ⟨_, rfl⟩
  have hmin : (if (5000 : Int) < (n : Int) then (5000 : Int) else (n : Int)) = (m : Int) := by split <;> omega
  have hmax : cap ≤ 9223372036854775807 := rd0.max
  have hle := rd0.le
  have hm1 : m ≤ n := by omega
  have hm2 : m ≤ 5000 := by omega
  have rd1 := rd0.take hm1
  generalize l0.take m = l at rd1
  have hlm := rd1.len
  subst hlm
  clear hm rd0
  go_enter Try.func6, Try.ntmps6
  go_wp2_with (at_builtin; refine wpList_append_bytes _ rfl (.tmp 8) (.tmp 13) bt rfl w.heap.size _ _ _ _ rfl (Own.lit (B := w.heap.size) _ (by (try simp) <;> omega) [] (by simp [maxLen]) #[] rfl _ 0 (by simp) rfl) _ _ _ _ rfl (rd1.alloc _) (by omega) (by (try simp) <;> omega) ?_; intro A1 c1 w1 own1 hg1 hl1; simp only [Nat.zero_add, List.nil_append] at own1)
  have hb1 : Below w.heap.size w w1 := Below.grown ((Below.refl _ _).alloc (Nat.le_refl _) _) hg1 (by (try simp) <;> omega) (by simp [blk])
  have hb1' := hid hb1
  have own1' := hid own1
  clear hg1 hl1 hb1 own1 rd1
  refine (read_any _ _ _ l _ own1'.out.rd (by omega)).mono ?_
  have hrr := hid (refRead_any l)
  generalize readF l = p at *
  rintro e w2 ⟨A2, c2, rfl, own2, hb2⟩
  have hs12 : w1.heap.size ≤ w2.heap.size := hb2.size
  have hb2' := hid (hb1'.out.trans (hb2.mono (by have := hb1'.out.size; omega)))
  have own1b := hid (own1'.out.ext hb2)
  have own2' := hid own2
  have hst := run_str_of_bytes (P := Try.prog) (w2.alloc (.cells #[.int .i64 p.c, .int .i64 p.i, .int .i64 p.t, .slice A2 p.d.length c2] 26)) bt 9 Try.underlying9 _ _ _ _ (own1b.out.rd.alloc _)
  clear hb2 own2
  go_wp2_with fail
  clear hst
  refine (hrr.out _ (by omega)).mono ?_
  rintro e w3 ⟨rfl, hb3⟩
  have hb3' := hid ((hb2'.out.alloc (by have := hb2'.out.size; omega) _).trans (hb3.mono (by have := hb2'.out.size; (try simp) <;> omega)))
  have own1c := hid ((own1b.out.alloc _).ext hb3)
  have own2c := hid ((own2'.out.alloc _).ext hb3)
  have kp3 := hid (Blk.ext (Blk.new w2 26 #[.int .i64 p.c, .int .i64 p.i, .int .i64 p.t, .slice A2 p.d.length c2] rfl) hb3)
  have hw2 : w2.heap.size < w3.heap.size := kp3.out.lt
  clear hb3
  go_wp2_with fail
  refine wp_abs (fun X => Below w.heap.size w X ∧ Blk X w2.heap.size 26 #[.int .i64 p.c, .int .i64 p.i, .int .i64 p.t, .slice A2 p.d.length c2] ∧ Blk X w3.heap.size 23 #[.int .i64 p.c, .int .i64 p.i, .int .i64 p.t, .string (str p.d)] ∧ Own X w1.heap.size 5 A2 p.d.length c2 p.d ∧ Own X w.heap.size 5 A1 l.length c1 l ∧ (∀ g, blk A1 = some g → g < w1.heap.size) ∧ w1.heap.size ≤ w2.heap.size)
    ⟨hb3'.out.alloc (by have := hb3'.out.size; omega) _, kp3.out.alloc _, Blk.new _ _ _ rfl, own2c.out.alloc _, own1c.out.alloc _, fun g hg => (own1'.out.lt g hg).2, hs12⟩ ?_
  rintro X ⟨hbX, kX, kpX, ownX2, ownX1, hlt1, hw12⟩
  have hbX' := hid hbX
  have kX' := hid kX
  have kpX' := hid kpX
  have ownX2' := hid ownX2
  have ownX1' := hid ownX1
  have hlt1' := hid hlt1
  clear hb3' own1c own2c kp3 own1b own2' own1' hb1' hb2'
  generalize w2.heap.size = H2 at *
  generalize w3.heap.size = H3 at *
  generalize w1.heap.size = H1 at *
  obtain ⟨f1, f2, f3⟩ := kX.facts
  obtain ⟨g1, g2, g3⟩ := kpX.facts
  clear hbX kX kpX ownX1 ownX2 hlt1
  go_region_held3 (fun w' => Below X.heap.size X w' ∧ (∀ b o, b < X.heap.size → w'.cell? ⟨b, o, none⟩ = X.cell? ⟨b, o, none⟩))
    (first
      | ((refine keepS ?_; (repeat (first | assumption | exact And.left (by assumption) | exact Below.refl _ _ | refine Below.drew ?_)); done))
      | (exact keepS (Below.trans (And.left (by assumption)) (hbA.mono (And.left (by assumption : Below _ _ _ ∧ _)).size))))
    (first
      | (go_at_call 11; refine (eaps_any _).mono ?_; rintro e wA ⟨rfl, hbA⟩)
      | (go_at_call 12; refine (from_any p.c p.i p.t _ _ _ p.d _ (ownX2'.out.rd.ext (And.left (by assumption)))).mono ?_; rintro e wA ⟨rfl, hbA⟩))
  have hS : Below X.heap.size X _ := And.left (by assumption)
  go_wp2_with fail
  refine wp_abs (fun Y => Below w.heap.size w Y ∧ Blk Y H2 26 #[.int .i64 p.c, .int .i64 p.i, .int .i64 p.t, .slice A2 p.d.length c2] ∧ Blk Y H3 23 #[.int .i64 p.c, .int .i64 p.i, .int .i64 p.t, .string (str p.d)] ∧ Own Y H1 5 A2 p.d.length c2 p.d ∧ Own Y w.heap.size 5 A1 l.length c1 l)
    ⟨hbX'.out.trans (hS.mono (by have := hbX'.out.size; omega)), kX'.out.ext hS, kpX'.out.ext hS, ownX2'.out.ext hS, ownX1'.out.ext hS⟩ ?_
  clear f1 f2 f3 g1 g2 g3
  rintro Y ⟨hbY, kY, kpY, ownY2, ownY1⟩
  have hbY' := hid hbY
  have kY' := hid kY
  have kpY' := hid kpY
  have ownY2' := hid ownY2
  have ownY1' := hid ownY1
  clear hS hbY kY kpY ownY2 ownY1
  rcases Nat.eq_zero_or_pos l.length with h0 | hp
  · go_loopw [7] (fun i wr => ∃ (k : Nat) (lk : List UInt8), k ≤ l.length ∧ i = .int .i64 k ∧ Own wr w.heap.size 5 A1 l.length c1 lk ∧ Y.grownBy wr (blk A1)) (fun i _ => l.length - (intOf i).toNat)
    case atStart => exact ⟨0, l, Nat.zero_le _, rfl, ownY1'.out, World.grownBy.refl Y _⟩
    case round =>
      obtain ⟨k, lk, hk, rfl, hown, hgr⟩ := hrel
      have kR := hid (Blk.grown kY'.out hgr (by intro h; have := hlt1'.out _ h.symm; omega))
      have kpR := hid (Blk.grown kpY'.out hgr (by intro h; have := hlt1'.out _ h.symm; omega))
      have rdR := hid (Own.kept ownY2'.out hgr (fun g hg h => by have := (ownY2'.out.lt g hg).1; have := hlt1'.out _ h.symm; omega))
      have hbR := hid (hbY'.out.trans (Below.grown (Below.refl _ _) hgr (by have := hbY'.out.size; omega) (fun g h => (ownY1'.out.lt g h).1)))
      obtain ⟨f1, f2, f3⟩ := kR.out.facts
      obtain ⟨g1, g2, g3⟩ := kpR.out.facts
      have hltF : ¬ ((k : Int) < (l.length : Int)) := by omega
      clear hown hgr
      go_wp2_with fail
      go_region_held3 (fun w' => Below wr.heap.size wr w' ∧ (∀ b o, b < wr.heap.size → w'.cell? ⟨b, o, none⟩ = wr.cell? ⟨b, o, none⟩))
        (first
          | ((refine keepS ?_; (repeat (first | assumption | exact And.left (by assumption) | exact Below.refl _ _ | refine Below.drew ?_)); done))
          | (exact keepS (Below.trans (And.left (by assumption)) (hbA.mono (And.left (by assumption : Below _ _ _ ∧ _)).size))))
        (first
          | (go_at_call 12; refine (from_any p.c p.i p.t _ _ _ p.d _ (rdR.out.rd.ext (And.left (by assumption)))).mono ?_; rintro e wA ⟨rfl, hbA⟩))
      have hS : Below wr.heap.size wr _ := And.left (by assumption)
      go_wp2_with fail
      go_ret
      exact ⟨rfl, hbR.out.trans (hS.mono (by have := hbR.out.size; omega))⟩
  · obtain ⟨g, hA, hg1, hg2, hg3, hg4⟩ := ownY1'.out.some_ hp
    have hgH := hlt1'.out g (by rw [hA]; rfl)
    clear hg3 hg4
    rw [hA] at ownY1' hlt1' ⊢
    clear ownX1'
    go_loopw [7] (fun i wr => ∃ (k : Nat) (lk : List UInt8), k ≤ l.length ∧ i = .int .i64 k ∧ Own wr w.heap.size 5 (some ⟨g, 0, none⟩) l.length c1 lk ∧ Y.grownBy wr (some g)) (fun i _ => l.length - (intOf i).toNat)
    case atStart => exact ⟨0, l, Nat.zero_le _, rfl, ownY1'.out, World.grownBy.refl Y _⟩
    case round =>
      obtain ⟨k, lk, hk, rfl, hown, hgr⟩ := hrel
      by_cases hlt : k < l.length
      · obtain ⟨g', hg', _, hz, hfr, hce⟩ := hown.some_ hp
        injection hg' with hg'
        injection hg' with hg'
        subst hg'
        have hc := hce k hlt
        have hf := hfr k hlt
        have q := u8_wf (gb lk k)
        clear hce hfr
        have hown' := hid hown
        have hgr' := hid hgr
        clear hown hgr
        go_wp2_with fail
        go_roundw
        case rel =>
          refine ⟨k + 1, lk.set k (gb lk k ^^^ 17), by omega, by go_num, ?_, grownBy_set hgr'.out _ _⟩
          have h := hown'.out.stored k (gb lk k ^^^ 17)
          rw [← u8_x] at h
          exact h
        case measure => simp [intOf]; omega
      · skip
        have kR := hid (Blk.grown kY'.out hgr (by intro h; have := hlt1'.out _ h.symm; omega))
        have kpR := hid (Blk.grown kpY'.out hgr (by intro h; have := hlt1'.out _ h.symm; omega))
        have rdR := hid (Own.kept ownY2'.out hgr (fun g hg h => by have := (ownY2'.out.lt g hg).1; have := hlt1'.out _ h.symm; omega))
        have hbR := hid (hbY'.out.trans (Below.grown (Below.refl _ _) hgr (by have := hbY'.out.size; omega) (fun g h => (ownY1'.out.lt g h).1)))
        obtain ⟨f1, f2, f3⟩ := kR.out.facts
        obtain ⟨g1, g2, g3⟩ := kpR.out.facts
        have hltF : ¬ ((k : Int) < (l.length : Int)) := by omega
        clear hown hgr
        go_wp2_with fail
        go_region_held3 (fun w' => Below wr.heap.size wr w' ∧ (∀ b o, b < wr.heap.size → w'.cell? ⟨b, o, none⟩ = wr.cell? ⟨b, o, none⟩))
          (first
            | ((refine keepS ?_; (repeat (first | assumption | exact And.left (by assumption) | exact Below.refl _ _ | refine Below.drew ?_)); done))
            | (exact keepS (Below.trans (And.left (by assumption)) (hbA.mono (And.left (by assumption : Below _ _ _ ∧ _)).size))))
          (first
            | (go_at_call 12; refine (from_any p.c p.i p.t _ _ _ p.d _ (rdR.out.rd.ext (And.left (by assumption)))).mono ?_; rintro e wA ⟨rfl, hbA⟩))
        have hS : Below wr.heap.size wr _ := And.left (by assumption)
        go_wp2_with fail
        go_ret
        exact ⟨rfl, hbR.out.trans (hS.mono (by have := hbR.out.size; omega))⟩
end Go.Proofs.Ytdkmmkjjcceahaa
