/- The walk of EapWrites. No condition. -/
import Derived.Test.YtdkmmkjjcceahaaEapG
import Derived.Test.YtdkmmkjjcceahaaEapH
namespace Go.Proofs.Ytdkmmkjjcceahaa
open Go.RowKit
set_option linter.unusedVariables false
set_option linter.unusedSimpArgs false
attribute [local go_sem ↓] run_slice_l' run_slice_lh' run_slice_h' run_index_str run_slice_str_l run_slice_str_h run_slice_str_lh
attribute [local go_sem] str_size str_append str_toL Lib.run_eql_slice_nil
set_option maxHeartbeats 1000000 in
theorem writes_yes (c i t : Int) (l : List UInt8) (hl : l.length ≤ 9223372036854775807) (w : World) (m : Nat) (hm : m ≤ l.length) (hm2 : m ≤ 5000) (hmin : (if (5000 : Int) < (l.length : Int) then (5000 : Int) else (l.length : Int)) = (m : Int)) (hs : psize c i t m ≠ 0) :
    Calls Try.prog 3 #[.agg #[.int .i64 c, .int .i64 i, .int .i64 t, .string (str l)]] w fun e w' => e = .returned (.bool true) ∧ Below w.heap.size w w' := by
  have hmI : (m : Int) ≤ (l.length : Int) := by omega
  have hlm : (l.take m).length = m := by rw [List.length_take]; omega
  go_enter Try.func3, Try.ntmps3
  go_wp2_with fail
  generalize hd : l.take m = d at *
  subst hlm
  clear hd hmin
  refine (to_any c i t d (by omega) _).mono ?_
  rintro e w1 ⟨A1, c1, rfl, own1, hb1⟩
  have k1 := (Blk.ext (Blk.new w 23 #[.int .i64 c, .int .i64 i, .int .i64 t, .string (str d)] rfl) hb1)
  have hb1' := hid (((Below.refl _ _).alloc (Nat.le_refl _) _).trans (hb1.mono (by simp)))
  have hk1 := hid k1
  obtain ⟨f1, f2, f3⟩ := k1.facts
  have own1' := hid own1
  clear hb1 k1 own1
  go_wp2_with fail
  refine (write_yes c i t _ _ _ d _ (own1'.out.rd.alloc _) hs).mono ?_
  rintro e w2 ⟨A2, n2, c2, rfl, own2, hb2⟩
  have k1 := (Blk.ext (Blk.alloc hk1.out _) hb2)
  have k2 := (Blk.ext (Blk.new w1 26 #[.int .i64 c, .int .i64 i, .int .i64 t, .slice A1 d.length c1] rfl) hb2)
  have hb2' := hid ((hb1'.out.alloc (by omega) _).trans (hb2.mono (by simp; omega)))
  have own1b := hid ((own1'.out.alloc _).ext hb2)
  have hk1b := hid k1
  have hk2 := hid k2
  have own2' := hid own2
  clear f1 f2 f3 hb2 own2
  obtain ⟨f1, f2, f3⟩ := k1.facts
  obtain ⟨g1, g2, g3⟩ := k2.facts
  have hw1 : w.heap.size < w1.heap.size := hk1.out.lt
  clear k1 k2
  go_wp2_with fail
  refine (refWrite_yes c i t d _ hs).mono ?_
  rintro e w3 ⟨rfl, hb3⟩
  have k1 := (Blk.ext hk1b.out hb3)
  have k2 := (Blk.ext hk2.out hb3)
  have rdb := hid ((own2'.out.ext hb3).rd)
  have rda := hid ((own1b.out.ext hb3).rd)
  have hb3' := hid (hb2'.out.trans (hb3.mono (by have := hb2'.out.size; omega)))
  clear f1 f2 f3 g1 g2 g3 hb3
  obtain ⟨f1, f2, f3⟩ := k1.facts
  obtain ⟨g1, g2, g3⟩ := k2.facts
  clear k1 k2
  go_wp2_with fail
  go_region_held3 (fun w' => Below w3.heap.size w3 w' ∧ (∀ b o, b < w3.heap.size → w'.cell? ⟨b, o, none⟩ = w3.cell? ⟨b, o, none⟩) ∧ (convert 24 9 (.slice A2 n2 c2)).run Try.prog w' = .ok (.string (str (pbytes c i t d))) w')
    (first
      | ((refine keepC bt Try.underlying9 rdb.out (Nat.le_refl _) ?_; (repeat (first | assumption | exact And.left (by assumption) | exact Below.refl _ _ | refine Below.drew ?_)); done))
      | (exact keepC bt Try.underlying9 rdb.out (Nat.le_refl _) (Below.trans (And.left (by assumption)) (hbA.mono (And.left (by assumption : Below _ _ _ ∧ _)).size))))
    (first
      | (go_at_call 11; refine (eaps_any _).mono ?_; rintro e wA ⟨rfl, hbA⟩)
      | (go_at_call 12; refine (from_any c i t _ _ _ d _ (rda.out.below (And.left (by assumption)) (Nat.le_refl _))).mono ?_; rintro e wA ⟨rfl, hbA⟩))
  have hS : Below w3.heap.size w3 _ := And.left (by assumption)
  go_wp2_with fail
  go_ret
  exact ⟨rfl, hb3'.out.trans (hS.mono (by have := hb3'.out.size; omega))⟩

set_option maxHeartbeats 1000000 in
theorem writes_no (c i t : Int) (l : List UInt8) (hl : l.length ≤ 9223372036854775807) (w : World) (m : Nat) (hm : m ≤ l.length) (hm2 : m ≤ 5000) (hmin : (if (5000 : Int) < (l.length : Int) then (5000 : Int) else (l.length : Int)) = (m : Int)) (hs : psize c i t m = 0) :
    Calls Try.prog 3 #[.agg #[.int .i64 c, .int .i64 i, .int .i64 t, .string (str l)]] w fun e w' => e = .returned (.bool true) ∧ Below w.heap.size w w' := by
  have hmI : (m : Int) ≤ (l.length : Int) := by omega
  have hlm : (l.take m).length = m := by rw [List.length_take]; omega
  go_enter Try.func3, Try.ntmps3
  go_wp2_with fail
  generalize hd : l.take m = d at *
  subst hlm
  clear hd hmin
  refine (to_any c i t d (by omega) _).mono ?_
  rintro e w1 ⟨A1, c1, rfl, own1, hb1⟩
  have k1 := (Blk.ext (Blk.new w 23 #[.int .i64 c, .int .i64 i, .int .i64 t, .string (str d)] rfl) hb1)
  have hb1' := hid (((Below.refl _ _).alloc (Nat.le_refl _) _).trans (hb1.mono (by simp)))
  have hk1 := hid k1
  obtain ⟨f1, f2, f3⟩ := k1.facts
  have own1' := hid own1
  clear hb1 k1 own1
  go_wp2_with fail
  refine (write_no c i t _ _ _ _ (by omega) hs).mono ?_
  rintro e w2 ⟨rfl, hb2⟩
  have k1 := (Blk.ext (Blk.alloc hk1.out _) hb2)
  have k2 := (Blk.ext (Blk.new w1 26 #[.int .i64 c, .int .i64 i, .int .i64 t, .slice A1 d.length c1] rfl) hb2)
  have hb2' := hid ((hb1'.out.alloc (by omega) _).trans (hb2.mono (by simp; omega)))
  have own1b := hid ((own1'.out.alloc _).ext hb2)
  have hk1b := hid k1
  have hk2 := hid k2
  clear f1 f2 f3 hb2
  obtain ⟨f1, f2, f3⟩ := k1.facts
  obtain ⟨g1, g2, g3⟩ := k2.facts
  have hw1 : w.heap.size < w1.heap.size := hk1.out.lt
  clear k1 k2
  go_wp2_with fail
  refine (refWrite_no c i t d _ (by omega) hs).mono ?_
  rintro e w3 ⟨rfl, hb3⟩
  have k1 := (Blk.ext hk1b.out hb3)
  have k2 := (Blk.ext hk2.out hb3)
  have rdb := hid (Rd.nil_ w3)
  have rda := hid ((own1b.out.ext hb3).rd)
  have hb3' := hid (hb2'.out.trans (hb3.mono (by have := hb2'.out.size; omega)))
  clear f1 f2 f3 g1 g2 g3 hb3
  obtain ⟨f1, f2, f3⟩ := k1.facts
  obtain ⟨g1, g2, g3⟩ := k2.facts
  clear k1 k2
  go_wp2_with fail
  go_region_held3 (fun w' => Below w3.heap.size w3 w' ∧ (∀ b o, b < w3.heap.size → w'.cell? ⟨b, o, none⟩ = w3.cell? ⟨b, o, none⟩) ∧ (convert 24 9 (.slice none 0 0)).run Try.prog w' = .ok (.string (str [])) w')
    (first
      | ((refine keepC bt Try.underlying9 rdb.out (Nat.zero_le _) ?_; (repeat (first | assumption | exact And.left (by assumption) | exact Below.refl _ _ | refine Below.drew ?_)); done))
      | (exact keepC bt Try.underlying9 rdb.out (Nat.zero_le _) (Below.trans (And.left (by assumption)) (hbA.mono (And.left (by assumption : Below _ _ _ ∧ _)).size))))
    (first
      | (go_at_call 11; refine (eaps_any _).mono ?_; rintro e wA ⟨rfl, hbA⟩)
      | (go_at_call 12; refine (from_any c i t _ _ _ d _ (rda.out.below (And.left (by assumption)) (Nat.le_refl _))).mono ?_; rintro e wA ⟨rfl, hbA⟩))
  have hS : Below w3.heap.size w3 _ := And.left (by assumption)
  go_wp2_with fail
  go_ret
  exact ⟨rfl, hb3'.out.trans (hS.mono (by have := hb3'.out.size; omega))⟩

theorem writes_any (c i t : Int) (l : List UInt8) (hl : l.length ≤ 9223372036854775807) (w : World) :
    Calls Try.prog 3 #[.agg #[.int .i64 c, .int .i64 i, .int .i64 t, .string (str l)]] w fun e w' => e = .returned (.bool true) ∧ Below w.heap.size w w' := by
  obtain ⟨m, hm⟩ : ∃ m, m = min l.length 5000 := ⟨_, rfl⟩
  have hmin : (if (5000 : Int) < (l.length : Int) then (5000 : Int) else (l.length : Int)) = (m : Int) := by split <;> omega
  by_cases hs : psize c i t m = 0
  · exact writes_no c i t l hl w m (by omega) (by omega) hmin hs
  · exact writes_yes c i t l hl w m (by omega) (by omega) hmin hs
end Go.Proofs.Ytdkmmkjjcceahaa
