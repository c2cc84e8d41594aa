/- The walk of EapBack. No condition. -/
import Derived.Test.YtdkmmkjjcceahaaEapG
import Derived.Test.YtdkmmkjjcceahaaEapH
import Derived.Test.YtdkmmkjjcceahaaEapQ
namespace Go.Proofs.Ytdkmmkjjcceahaa
open Go.RowKit
set_option linter.unusedVariables false
set_option linter.unusedSimpArgs false
attribute [local go_sem ↓] run_slice_l' run_slice_lh' run_slice_h' run_index_str run_slice_str_l run_slice_str_h run_slice_str_lh
attribute [local go_sem] str_size str_append str_toL Lib.run_eql_slice_nil
set_option maxHeartbeats 2000000 in
theorem back_yes (c i t cut : Int) (l : List UInt8) (hl : l.length ≤ 9223372036854775807) (w : World) (m : Nat) (hm : m ≤ l.length) (hm2 : m ≤ 5000) (hmin : (if (5000 : Int) < (l.length : Int) then (5000 : Int) else (l.length : Int)) = (m : Int)) (hs : psize c i t m ≠ 0) :
    Calls Try.prog 7 #[.agg #[.int .i64 c, .int .i64 i, .int .i64 t, .string (str l)], .int .i64 cut] w fun e w' => e = .returned (.bool true) ∧ Below w.heap.size w w' := by
  have hmI : (m : Int) ≤ (l.length : Int) := by omega
  have hlm : (l.take m).length = m := by rw [List.length_take]; omega
  have hU0 : 0 ≤ IntKind.u64.wrap cut := by simp [IntKind.wrap, IntKind.bits, IntKind.signed]; omega
  obtain ⟨U, hU⟩ : ∃ U, IntKind.u64.wrap cut = U := ⟨_, rfl⟩
  rw [hU] at hU0
  go_enter Try.func7, Try.ntmps7
  go_wp2_with fail
  generalize hd : l.take m = d at *
  subst hlm
  clear hd hmin
  refine (to_any c i t d (by omega) _).mono ?_
  rintro e w1 ⟨A1, c1, rfl, own1, hb1⟩
  have k1 := (Blk.ext (Blk.new w 23 #[.int .i64 c, .int .i64 i, .int .i64 t, .string (str d)] rfl) hb1)
  have hb1' := hid (((Below.refl _ _).alloc (Nat.le_refl _) _).trans (hb1.mono (by simp)))
  have hk1 := hid k1
  have own1' := hid own1
  clear hb1 k1 own1
  go_wp2_with fail
  refine (write_yes c i t _ _ _ d _ own1'.out.rd hs).mono ?_
  rintro e w2 ⟨A2, n2', c2, rfl, own2, hb2⟩
  obtain ⟨q1, q2⟩ := pbytes_n2 hs
  have hpl : ((pbytes c i t d).length : Int) ≤ 4096 := by rw [pbytes_length hs]; unfold psize; split <;> (try split) <;> (try split) <;> omega
  have e1 := back hs
  have e2 := fun k => back_tail (k := k) hs
  have e3 := back_more hs (b8 cut)
  generalize hpb : pbytes c i t d = pb at *
  have hn := own2.len
  subst hn
  have hk2 := hid (Blk.ext hk1.out hb2)
  have hb2' := hid (hb1'.out.trans (hb2.mono (by have := hb1'.out.size; omega)))
  have own2' := hid own2
  have e1' := hid e1
  have e2' := hid e2
  have e3' := hid e3
  have hpb' := hid hpb
  have q1' := hid q1
  have q2I : (4 : Int) ≤ (pb.length : Int) := by omega
  clear hb2 own2 e1 e2 e3 hpb q1
  go_wp2_with fail
  refine (eaps_any _).mono ?_
  rintro e w3 ⟨rfl, hb3⟩
  have hk3 := hid (Blk.ext hk2.out hb3)
  have hb3' := hid (hb2'.out.trans (hb3.mono (by have := hb2'.out.size; omega)))
  have own3 := hid (own2'.out.ext hb3)
  clear hb3
  go_wp2_with fail
  refine (read_any _ _ _ pb _ own3.out.rd (by omega)).mono ?_
  rw [e1'.out]
  rintro e w4 ⟨A4, c4, rfl, own4, hb4⟩
  have hk4 := hid (Blk.ext hk3.out hb4)
  have hb4' := hid (hb3'.out.trans (hb4.mono (by have := hb3'.out.size; omega)))
  have own4b := hid (own3.out.ext hb4)
  have own4' := hid own4
  clear hb4 own4
  obtain ⟨K, hK⟩ : ∃ K : Nat, U % (pb.length : Int) = (K : Int) := ⟨(U % (pb.length : Int)).toNat, by have := Int.emod_nonneg U (show (pb.length : Int) ≠ 0 by omega); omega⟩
  have hK1 : (K : Int) < (pb.length : Int) := by rw [← hK]; exact Int.emod_lt_of_pos U (by omega)
  have hK2 : (K : Int) ≤ (c2 : Int) := by have := own3.out.rd.le; omega
  go_wp2_with fail
  have kp4 := Blk.new w4 26 #[.int .i64 c, .int .i64 i, .int .i64 t, .slice A4 d.length c4] rfl
  have hkp4 := hid kp4
  clear kp4
  refine (read_any _ _ _ (pb.take K) _ ((own4b.out.rd.take (by omega)).alloc _) (by omega)).mono ?_
  rw [e2'.out K (by omega)]
  rintro e w5 ⟨A5, c5, rfl, own5, hb5⟩
  have hk5 := hid (Blk.ext (Blk.alloc hk4.out _) hb5)
  have hkp5 := hid (Blk.ext hkp4.out hb5)
  have hb5' := hid ((hb4'.out.alloc (by have := hb4'.out.size; omega) _).trans (hb5.mono (by have := hb4'.out.size; simp; omega)))
  have own5b := hid ((own4b.out.alloc _).ext hb5)
  have own5c := hid ((own4'.out.alloc _).ext hb5)
  clear hb5 own5
  have hn0 : 0 + pb.length = pb.length := by omega
  go_wp2_with (first
    | (at_builtin; refine wpList_append_bytes _ rfl (.tmp 58) (.tmp 59) bt rfl w5.heap.size _ _ _ _ rfl (Own.lit (B := w5.heap.size) _ (by (try simp) <;> omega) [] (by simp [maxLen]) #[] rfl _ 0 (by simp) rfl) _ _ _ _ rfl ((own5b.out.rd.alloc _).alloc _) (by omega) (by (try simp) <;> omega) ?_; intro A6 c6 w6 own6 hg6 hl6; simp only [Nat.zero_add, List.nil_append] at own6)
    | (at_builtin; refine wpList_append_bytes _ rfl (.tmp 60) (.tmp 63) bt rfl w5.heap.size _ _ _ _ rfl (own6.alloc _) _ _ _ [b8 cut] rfl (Rd.one (by simp [u8_mod])) (by omega) (by have := hg6.size; simp at this; (try simp) <;> omega) ?_; intro A7 c7 w7 own7 hg7 hl7))
  have hz67 : w5.heap.size ≤ w6.heap.size ∧ w6.heap.size ≤ w7.heap.size := by
    have h1 := hg6.size
    have h2 := hg7.size
    simp at h1 h2
    omega
  have hb6 : Below w5.heap.size w5 w6 := Below.grown (((Below.refl _ _).alloc (Nat.le_refl _) _).alloc (by (try simp) <;> omega) _) hg6 (by (try simp) <;> omega) (by simp [blk])
  have hb7 : Below w5.heap.size w5 w7 := Below.grown (hb6.alloc (by omega) _) hg7 (by (try simp) <;> omega) (fun k hk => (own6.lt k hk).1)
  have hk7 := hid (Blk.below hk5.out hb7 hk5.out.lt)
  have hkp7 := hid (Blk.below hkp5.out hb7 hkp5.out.lt)
  have hb7' := hid (hb5'.out.trans (hb7.mono (by have := hb5'.out.size; omega)))
  have own7c := hid (own5c.out.rd.below hb7 own5c.out.rd.bd)
  have own7' := hid own7
  have e3 := e3'.out
  clear hb6 hb7 hg6 hg7 own6 own7 hl6 hl7 hn0
  refine (read_any _ _ _ (pb ++ [b8 cut]) _ own7'.out.rd (by omega)).mono ?_
  rw [e3]
  rintro e w8 ⟨A8, c8, rfl, own8, hb8⟩
  have k8 := (Blk.ext hk7.out hb8)
  have kp8 := (Blk.ext hkp7.out hb8)
  have hb8' := hid (hb7'.out.trans (hb8.mono (by have := hb7'.out.size; omega)))
  have rd8 := hid (own7c.out.ext hb8)
  have hk8 := hid k8
  have hkp8 := hid kp8
  have kA := k8.alloc (.cells #[.int .i64 0, .int .i64 0, .int .i64 0, .slice A8 0 c8] 26)
  have kB := kp8.alloc (.cells #[.int .i64 0, .int .i64 0, .int .i64 0, .slice A8 0 c8] 26)
  obtain ⟨f1, f2, f3⟩ := k8.facts
  obtain ⟨g1, g2, g3⟩ := kp8.facts
  clear hb8 own8 k8 kp8 e3 kA kB
  go_wp2_with fail
  clear f1 f2 f3 g1 g2 g3
  refine wp_abs (fun X => Below w.heap.size w X ∧ Blk X w.heap.size 23 #[.int .i64 c, .int .i64 i, .int .i64 t, .string (str d)] ∧ Blk X w4.heap.size 26 #[.int .i64 c, .int .i64 i, .int .i64 t, .slice A4 d.length c4] ∧ Rd X w5.heap.size A4 d.length c4 d) ⟨hb8'.out.alloc (by have := hb8'.out.size; omega) _, hk8.out.alloc _, hkp8.out.alloc _, rd8.out.alloc _⟩ ?_
  rintro X ⟨hbX, kX, kpX, rdX⟩
  have hbX' := hid hbX
  have rdX' := hid rdX
  have hk4s := hkp4
  generalize w4.heap.size = H4 at *
  generalize w5.heap.size = H5 at *
  obtain ⟨f1, f2, f3⟩ := kX.facts
  obtain ⟨g1, g2, g3⟩ := kpX.facts
  clear hbX kX kpX rdX
  go_region_held3 (fun w' => Below X.heap.size X w' ∧ (∀ b o, b < X.heap.size → w'.cell? ⟨b, o, none⟩ = X.cell? ⟨b, o, none⟩))
    (first
      | ((refine keepS ?_; (repeat (first | assumption | exact And.left (by assumption) | exact Below.refl _ _ | refine Below.drew ?_)); done))
      | (exact keepS (Below.trans (And.left (by assumption)) (hbA.mono (And.left (by assumption : Below _ _ _ ∧ _)).size))))
    (first
      | (go_at_call 12; refine (from_any c i t _ _ _ d _ (rdX'.out.ext (And.left (by assumption)))).mono ?_; rintro e wA ⟨rfl, hbA⟩))
  have hS : Below X.heap.size X _ := And.left (by assumption)
  go_wp2_with fail
  go_ret
  exact ⟨rfl, hbX'.out.trans (hS.mono (by have := hbX'.out.size; omega))⟩

set_option maxHeartbeats 1000000 in
theorem back_no (c i t cut : Int) (l : List UInt8) (hl : l.length ≤ 9223372036854775807) (w : World) (m : Nat) (hm : m ≤ l.length) (hm2 : m ≤ 5000) (hmin : (if (5000 : Int) < (l.length : Int) then (5000 : Int) else (l.length : Int)) = (m : Int)) (hs : psize c i t m = 0) :
    Calls Try.prog 7 #[.agg #[.int .i64 c, .int .i64 i, .int .i64 t, .string (str l)], .int .i64 cut] w fun e w' => e = .returned (.bool true) ∧ Below w.heap.size w w' := by
  have hmI : (m : Int) ≤ (l.length : Int) := by omega
  have hlm : (l.take m).length = m := by rw [List.length_take]; omega
  go_enter Try.func7, Try.ntmps7
  go_wp2_with fail
  generalize hd : l.take m = d at *
  subst hlm
  clear hd hmin
  refine (to_any c i t d (by omega) _).mono ?_
  rintro e w1 ⟨A1, c1, rfl, own1, hb1⟩
  have hb1' := hid (((Below.refl _ _).alloc (Nat.le_refl _) _).trans (hb1.mono (by simp)))
  clear hb1 own1
  go_wp2_with fail
  refine (write_no c i t _ _ _ _ (by omega) hs).mono ?_
  rintro e w2 ⟨rfl, hb2⟩
  have hb2' := hid (hb1'.out.trans (hb2.mono (by have := hb1'.out.size; omega)))
  clear hb2 hs
  go_wp2_with fail
  refine (eaps_any _).mono ?_
  rintro e w3 ⟨rfl, hb3⟩
  have hb3' := hid (hb2'.out.trans (hb3.mono (by have := hb2'.out.size; omega)))
  clear hb3
  go_wp2_with fail
  refine (eaps_any _).mono ?_
  rintro e w4 ⟨rfl, hb4⟩
  have hb4' := hid (hb3'.out.trans (hb4.mono (by have := hb3'.out.size; omega)))
  clear hb4
  go_wp2_with fail
  go_ret
  exact ⟨rfl, hb4'.out⟩

theorem back_any (c i t cut : Int) (l : List UInt8) (hl : l.length ≤ 9223372036854775807) (w : World) :
    Calls Try.prog 7 #[.agg #[.int .i64 c, .int .i64 i, .int .i64 t, .string (str l)], .int .i64 cut] w fun e w' => e = .returned (.bool true) ∧ Below w.heap.size w w' := by
  obtain ⟨m, hm⟩ : ∃ m, m = min l.length 5000 := ⟨_, rfl⟩
  have hmin : (if (5000 : Int) < (l.length : Int) then (5000 : Int) else (l.length : Int)) = (m : Int) := by split <;> omega
  by_cases hs : psize c i t m = 0
  · exact back_no c i t cut l hl w m (by omega) (by omega) hmin hs
  · exact back_yes c i t cut l hl w m (by omega) (by omega) hmin hs
end Go.Proofs.Ytdkmmkjjcceahaa
