/- The walk of EapEnds. No condition. -/
import Derived.Test.YtdkmmkjjcceahaaEapG
namespace Go.Proofs.Ytdkmmkjjcceahaa
open Go.RowKit
set_option linter.unusedVariables false
set_option linter.unusedSimpArgs false
attribute [local go_sem ↓] run_slice_l' run_slice_lh' run_slice_h' run_index_str run_slice_str_l run_slice_str_h run_slice_str_lh
attribute [local go_sem] str_size str_append str_toL Lib.run_eql_slice_nil

theorem tmod2 (kind : Int) : (kind.tmod 2 == 0) = decide (kind % 2 = 0) := by
  have h : kind.tmod 2 = 0 ↔ kind % 2 = 0 := by rw [← Int.dvd_iff_tmod_eq_zero, Int.dvd_iff_emod_eq_zero]
  rw [Bool.eq_iff_iff]
  simp [h]
theorem psz {c id t : Int} {m : Nat} (h1 : 3 ≤ c) (h2 : c ≤ 4) : psize c id t m ≠ 0 ↔ (0 ≤ id ∧ id ≤ 255) ∧ t = 0 ∧ m = 0 := by rw [psize_ne]; omega
theorem psz0 {c id t : Int} {m : Nat} (h1 : 3 ≤ c) (h2 : c ≤ 4) (h : ¬ ((0 ≤ id ∧ id ≤ 255) ∧ t = 0 ∧ m = 0)) : psize c id t m = 0 := by
  by_cases h0 : psize c id t m = 0
  · exact h0
  · exact absurd ((psz h1 h2).1 h0) h

set_option maxHeartbeats 1000000 in
theorem ends_3iz (A : Option Addr) (n cap : Nat) (hnc : n ≤ cap) (hmax : cap ≤ 9223372036854775807) (w : World) (id : Int) (h0 : 0 ≤ id) (h1 : id ≤ 255) (hn0 : n = 0) :
    Calls Try.prog 5 #[.int .i64 id, .int .i64 0, .slice A n cap] w fun e w' => e = .returned (.bool true) ∧ Below w.heap.size w w' := by
  subst hn0
  go_enter Try.func5, Try.ntmps5
  go_wp2_with fail
  refine (write_short 3 id none 0 _ (by omega) (by omega) h0 h1).mono ?_
  rintro e w1 ⟨A1, n1, c1, rfl, own1, hb1⟩
  have hst := fun W (hb : Below w1.heap.size w1 W) => run_str_of_bytes (P := Try.prog) W bt 9 Try.underlying9 A1 n1 c1 _ (own1.rd.below hb (Nat.le_refl _))
  have hb1' := hid hb1
  have hz1 := hb1.size
  clear hb1
  go_wp2_with fail
  refine (write_short 3 id A cap _ (by omega) (by omega) h0 h1).mono ?_
  rintro e w2 ⟨A2, n2, c2, rfl, own2, hb2⟩
  clear own2
  have hb2a := hid hb2
  have hb2' := hid (hb1'.out.trans (hb2.mono hz1))
  have hz2 := Nat.le_trans hz1 hb2.size
  clear hb2
  go_wp2_with fail
  refine (eaps_any _).mono ?_
  rintro e w3 ⟨rfl, hb3⟩
  have hb3' := hid (hb2'.out.trans (hb3.mono hz2))
  have hb3a := hid (hb2a.out.trans (hb3.mono hb2a.out.size))
  have hst3 := hst w3 hb3a.out
  have st4 := fun W H hH => run_str_lit (P := Try.prog) bt 9 Try.underlying9 [b8 3, b8 id, 0, 4] #[Value.int IntKind.u8 3, Value.int IntKind.u8 id, Value.int IntKind.u8 0, Value.int IntKind.u8 4] (by simp only [u8s, List.map]; rw [u8_b8 (x := id) (by omega) (by omega)]; rfl) 4 rfl W H hH
  clear hb3
  clear hst
  go_wp2_with fail
  all_goals go_ret
  all_goals exact ⟨rfl, by repeat (first | exact hb3'.out | refine Below.alloc ?_ (by have := hb3'.out.size; first | omega | (simp; omega)) _)⟩

set_option maxHeartbeats 1000000 in
theorem ends_3in (A : Option Addr) (n cap : Nat) (hnc : n ≤ cap) (hmax : cap ≤ 9223372036854775807) (w : World) (kind : Int) (id : Int) (h0 : 0 ≤ id) (h1 : id ≤ 255) (k : Nat) (hz : ¬ (kind = 0 ∧ k = 0)) (hk2 : k ≤ 20) (hk1 : k ≤ n) (hp2 : (kind.tmod 2 == 0) = true) (hmin : (if (20 : Int) < (n : Int) then (20 : Int) else (n : Int)) = (k : Int)) :
    Calls Try.prog 5 #[.int .i64 id, .int .i64 kind, .slice A n cap] w fun e w' => e = .returned (.bool true) ∧ Below w.heap.size w w' := by
  have hzz : ¬ (kind = 0) ∨ ¬ (k = 0) := by omega
  have hz' := hid hz
  clear hz
  go_enter Try.func5, Try.ntmps5
  go_wp2_with fail
  refine (write_short 3 id none 0 _ (by omega) (by omega) h0 h1).mono ?_
  rintro e w1 ⟨A1, n1, c1, rfl, own1, hb1⟩
  have hst := fun W (hb : Below w1.heap.size w1 W) => run_str_of_bytes (P := Try.prog) W bt 9 Try.underlying9 A1 n1 c1 _ (own1.rd.below hb (Nat.le_refl _))
  have hb1' := hid hb1
  have hz1 := hb1.size
  clear hb1
  go_wp2_with fail
  refine (write_no 3 id kind A k cap _ (by omega) (psz0 (by omega) (by omega) (by have := hz'.out; omega))).mono ?_
  rintro e w2 ⟨rfl, hb2⟩
  have hb2a := hid hb2
  have hb2' := hid (hb1'.out.trans (hb2.mono hz1))
  have hz2 := Nat.le_trans hz1 hb2.size
  clear hb2
  go_wp2_with fail
  refine (eaps_any _).mono ?_
  rintro e w3 ⟨rfl, hb3⟩
  have hb3' := hid (hb2'.out.trans (hb3.mono hz2))
  have hb3a := hid (hb2a.out.trans (hb3.mono hb2a.out.size))
  have hst3 := hst w3 hb3a.out
  have st4 := fun W H hH => run_str_lit (P := Try.prog) bt 9 Try.underlying9 [b8 3, b8 id, 0, 4] #[Value.int IntKind.u8 3, Value.int IntKind.u8 id, Value.int IntKind.u8 0, Value.int IntKind.u8 4] (by simp only [u8s, List.map]; rw [u8_b8 (x := id) (by omega) (by omega)]; rfl) 4 rfl W H hH
  clear hb3
  clear hst
  by_cases hkd : kind = 0
  · subst hkd
    have hk0 : ((k : Int) == 0) = false := by simp only [beq_eq_false_iff_ne]; have := hz'.out; omega
    clear hzz
    go_wp2_with fail
    all_goals go_ret
    all_goals exact ⟨rfl, by repeat (first | exact hb3'.out | refine Below.alloc ?_ (by have := hb3'.out.size; first | omega | (simp; omega)) _)⟩
  · have hk0 : (kind == 0) = false := by simp only [beq_eq_false_iff_ne]; exact hkd
    clear hzz hkd
    go_wp2_with fail
    all_goals go_ret
    all_goals exact ⟨rfl, by repeat (first | exact hb3'.out | refine Below.alloc ?_ (by have := hb3'.out.size; first | omega | (simp; omega)) _)⟩

set_option maxHeartbeats 1000000 in
theorem ends_3oz (A : Option Addr) (n cap : Nat) (hnc : n ≤ cap) (hmax : cap ≤ 9223372036854775807) (w : World) (id : Int) (ho : id < 0 ∨ 255 < id) (hn0 : n = 0) :
    Calls Try.prog 5 #[.int .i64 id, .int .i64 0, .slice A n cap] w fun e w' => e = .returned (.bool true) ∧ Below w.heap.size w w' := by
  subst hn0
  have ho' := hid ho
  go_enter Try.func5, Try.ntmps5
  go_wp2_with fail
  refine (write_no 3 id 0 none 0 0 _ (by omega) (psz0 (by omega) (by omega) (by omega))).mono ?_
  rintro e w1 ⟨rfl, hb1⟩
  have hb1' := hid hb1
  have hz1 := hb1.size
  clear hb1
  go_wp2_with fail
  refine (write_no 3 id 0 A 0 cap _ (by omega) (psz0 (by omega) (by omega) (by omega))).mono ?_
  rintro e w2 ⟨rfl, hb2⟩
  have hb2a := hid hb2
  have hb2' := hid (hb1'.out.trans (hb2.mono hz1))
  have hz2 := Nat.le_trans hz1 hb2.size
  clear hb2
  go_wp2_with fail
  refine (eaps_any _).mono ?_
  rintro e w3 ⟨rfl, hb3⟩
  have hb3' := hid (hb2'.out.trans (hb3.mono hz2))
  have hb3a := hid (hb2a.out.trans (hb3.mono hb2a.out.size))
  clear hb3
  go_wp2_with fail
  all_goals go_ret
  all_goals exact ⟨rfl, hb3'.out⟩

set_option maxHeartbeats 1000000 in
theorem ends_3on (A : Option Addr) (n cap : Nat) (hnc : n ≤ cap) (hmax : cap ≤ 9223372036854775807) (w : World) (kind : Int) (id : Int) (ho : id < 0 ∨ 255 < id) (k : Nat) (hz : ¬ (kind = 0 ∧ k = 0)) (hk2 : k ≤ 20) (hk1 : k ≤ n) (hp2 : (kind.tmod 2 == 0) = true) (hmin : (if (20 : Int) < (n : Int) then (20 : Int) else (n : Int)) = (k : Int)) :
    Calls Try.prog 5 #[.int .i64 id, .int .i64 kind, .slice A n cap] w fun e w' => e = .returned (.bool true) ∧ Below w.heap.size w w' := by
  have hzz : ¬ (kind = 0) ∨ ¬ (k = 0) := by omega
  have hz' := hid hz
  clear hz
  have ho' := hid ho
  go_enter Try.func5, Try.ntmps5
  go_wp2_with fail
  refine (write_no 3 id 0 none 0 0 _ (by omega) (psz0 (by omega) (by omega) (by omega))).mono ?_
  rintro e w1 ⟨rfl, hb1⟩
  have hb1' := hid hb1
  have hz1 := hb1.size
  clear hb1
  go_wp2_with fail
  refine (write_no 3 id kind A k cap _ (by omega) (psz0 (by omega) (by omega) (by have := hz'.out; omega))).mono ?_
  rintro e w2 ⟨rfl, hb2⟩
  have hb2a := hid hb2
  have hb2' := hid (hb1'.out.trans (hb2.mono hz1))
  have hz2 := Nat.le_trans hz1 hb2.size
  clear hb2
  go_wp2_with fail
  refine (eaps_any _).mono ?_
  rintro e w3 ⟨rfl, hb3⟩
  have hb3' := hid (hb2'.out.trans (hb3.mono hz2))
  have hb3a := hid (hb2a.out.trans (hb3.mono hb2a.out.size))
  clear hb3
  by_cases hkd : kind = 0
  · subst hkd
    have hk0 : ((k : Int) == 0) = false := by simp only [beq_eq_false_iff_ne]; have := hz'.out; omega
    clear hzz
    go_wp2_with fail
    all_goals go_ret
    all_goals exact ⟨rfl, hb3'.out⟩
  · have hk0 : (kind == 0) = false := by simp only [beq_eq_false_iff_ne]; exact hkd
    clear hzz hkd
    go_wp2_with fail
    all_goals go_ret
    all_goals exact ⟨rfl, hb3'.out⟩

set_option maxHeartbeats 1000000 in
theorem ends_4in (A : Option Addr) (n cap : Nat) (hnc : n ≤ cap) (hmax : cap ≤ 9223372036854775807) (w : World) (kind : Int) (id : Int) (h0 : 0 ≤ id) (h1 : id ≤ 255) (k : Nat) (hz : ¬ (kind = 0 ∧ k = 0)) (hk2 : k ≤ 20) (hk1 : k ≤ n) (hp2 : (kind.tmod 2 == 0) = false) (hmin : (if (20 : Int) < (n : Int) then (20 : Int) else (n : Int)) = (k : Int)) :
    Calls Try.prog 5 #[.int .i64 id, .int .i64 kind, .slice A n cap] w fun e w' => e = .returned (.bool true) ∧ Below w.heap.size w w' := by
  have hzz : ¬ (kind = 0) ∨ ¬ (k = 0) := by omega
  have hz' := hid hz
  clear hz
  go_enter Try.func5, Try.ntmps5
  go_wp2_with fail
  refine (write_short 4 id none 0 _ (by omega) (by omega) h0 h1).mono ?_
  rintro e w1 ⟨A1, n1, c1, rfl, own1, hb1⟩
  have hst := fun W (hb : Below w1.heap.size w1 W) => run_str_of_bytes (P := Try.prog) W bt 9 Try.underlying9 A1 n1 c1 _ (own1.rd.below hb (Nat.le_refl _))
  have hb1' := hid hb1
  have hz1 := hb1.size
  clear hb1
  go_wp2_with fail
  refine (write_no 4 id kind A k cap _ (by omega) (psz0 (by omega) (by omega) (by have := hz'.out; omega))).mono ?_
  rintro e w2 ⟨rfl, hb2⟩
  have hb2a := hid hb2
  have hb2' := hid (hb1'.out.trans (hb2.mono hz1))
  have hz2 := Nat.le_trans hz1 hb2.size
  clear hb2
  go_wp2_with fail
  refine (eaps_any _).mono ?_
  rintro e w3 ⟨rfl, hb3⟩
  have hb3' := hid (hb2'.out.trans (hb3.mono hz2))
  have hb3a := hid (hb2a.out.trans (hb3.mono hb2a.out.size))
  have hst3 := hst w3 hb3a.out
  have st4 := fun W H hH => run_str_lit (P := Try.prog) bt 9 Try.underlying9 [b8 4, b8 id, 0, 4] #[Value.int IntKind.u8 4, Value.int IntKind.u8 id, Value.int IntKind.u8 0, Value.int IntKind.u8 4] (by simp only [u8s, List.map]; rw [u8_b8 (x := id) (by omega) (by omega)]; rfl) 4 rfl W H hH
  clear hb3
  clear hst
  by_cases hkd : kind = 0
  · subst hkd
    have hk0 : ((k : Int) == 0) = false := by simp only [beq_eq_false_iff_ne]; have := hz'.out; omega
    clear hzz
    go_wp2_with fail
    all_goals go_ret
    all_goals exact ⟨rfl, by repeat (first | exact hb3'.out | refine Below.alloc ?_ (by have := hb3'.out.size; first | omega | (simp; omega)) _)⟩
  · have hk0 : (kind == 0) = false := by simp only [beq_eq_false_iff_ne]; exact hkd
    clear hzz hkd
    go_wp2_with fail
    all_goals go_ret
    all_goals exact ⟨rfl, by repeat (first | exact hb3'.out | refine Below.alloc ?_ (by have := hb3'.out.size; first | omega | (simp; omega)) _)⟩

set_option maxHeartbeats 1000000 in
theorem ends_4on (A : Option Addr) (n cap : Nat) (hnc : n ≤ cap) (hmax : cap ≤ 9223372036854775807) (w : World) (kind : Int) (id : Int) (ho : id < 0 ∨ 255 < id) (k : Nat) (hz : ¬ (kind = 0 ∧ k = 0)) (hk2 : k ≤ 20) (hk1 : k ≤ n) (hp2 : (kind.tmod 2 == 0) = false) (hmin : (if (20 : Int) < (n : Int) then (20 : Int) else (n : Int)) = (k : Int)) :
    Calls Try.prog 5 #[.int .i64 id, .int .i64 kind, .slice A n cap] w fun e w' => e = .returned (.bool true) ∧ Below w.heap.size w w' := by
  have hzz : ¬ (kind = 0) ∨ ¬ (k = 0) := by omega
  have hz' := hid hz
  clear hz
  have ho' := hid ho
  go_enter Try.func5, Try.ntmps5
  go_wp2_with fail
  refine (write_no 4 id 0 none 0 0 _ (by omega) (psz0 (by omega) (by omega) (by omega))).mono ?_
  rintro e w1 ⟨rfl, hb1⟩
  have hb1' := hid hb1
  have hz1 := hb1.size
  clear hb1
  go_wp2_with fail
  refine (write_no 4 id kind A k cap _ (by omega) (psz0 (by omega) (by omega) (by have := hz'.out; omega))).mono ?_
  rintro e w2 ⟨rfl, hb2⟩
  have hb2a := hid hb2
  have hb2' := hid (hb1'.out.trans (hb2.mono hz1))
  have hz2 := Nat.le_trans hz1 hb2.size
  clear hb2
  go_wp2_with fail
  refine (eaps_any _).mono ?_
  rintro e w3 ⟨rfl, hb3⟩
  have hb3' := hid (hb2'.out.trans (hb3.mono hz2))
  have hb3a := hid (hb2a.out.trans (hb3.mono hb2a.out.size))
  clear hb3
  by_cases hkd : kind = 0
  · subst hkd
    have hk0 : ((k : Int) == 0) = false := by simp only [beq_eq_false_iff_ne]; have := hz'.out; omega
    clear hzz
    go_wp2_with fail
    all_goals go_ret
    all_goals exact ⟨rfl, hb3'.out⟩
  · have hk0 : (kind == 0) = false := by simp only [beq_eq_false_iff_ne]; exact hkd
    clear hzz hkd
    go_wp2_with fail
    all_goals go_ret
    all_goals exact ⟨rfl, hb3'.out⟩


theorem ends_any {B : Nat} (id kind : Int) (A : Option Addr) (n cap : Nat) (l : List UInt8) (w : World) (rd : Rd w B A n cap l) :
    Calls Try.prog 5 #[.int .i64 id, .int .i64 kind, .slice A n cap] w fun e w' => e = .returned (.bool true) ∧ Below w.heap.size w w' := by
  have hle := rd.le
  have hmax : cap ≤ 9223372036854775807 := rd.max
  obtain ⟨k, hk⟩ : ∃ k, k = min n 20 := ⟨_, rfl⟩
  have hk1 : k ≤ n := by omega
  have hk2 : k ≤ 20 := by omega
  have hmin : (if (20 : Int) < (n : Int) then (20 : Int) else (n : Int)) = (k : Int) := by split <;> omega
  by_cases hz : kind = 0 ∧ k = 0
  · obtain ⟨rfl, hk0⟩ := hz
    by_cases hd : 0 ≤ id ∧ id ≤ 255
    · exact ends_3iz A n cap hle hmax w id hd.1 hd.2 (by omega)
    · exact ends_3oz A n cap hle hmax w id (by omega) (by omega)
  · by_cases hp : kind % 2 = 0
    · have hp2 : (kind.tmod 2 == 0) = true := by rw [tmod2]; simp [hp]
      by_cases hd : 0 ≤ id ∧ id ≤ 255
      · exact ends_3in A n cap hle hmax w kind id hd.1 hd.2 k hz hk2 hk1 hp2 hmin
      · exact ends_3on A n cap hle hmax w kind id (by omega) k hz hk2 hk1 hp2 hmin
    · have hp2 : (kind.tmod 2 == 0) = false := by rw [tmod2]; simp [hp]
      by_cases hd : 0 ≤ id ∧ id ≤ 255
      · exact ends_4in A n cap hle hmax w kind id hd.1 hd.2 k hz hk2 hk1 hp2 hmin
      · exact ends_4on A n cap hle hmax w kind id (by omega) k hz hk2 hk1 hp2 hmin
end Go.Proofs.Ytdkmmkjjcceahaa
