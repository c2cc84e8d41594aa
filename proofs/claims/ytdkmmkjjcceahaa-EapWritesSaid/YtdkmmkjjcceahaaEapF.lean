import Derived.Test.YtdkmmkjjcceahaaEapE
namespace Go.Proofs.Ytdkmmkjjcceahaa
open Go.RowKit
set_option linter.unusedVariables false
attribute [local go_sem ↓] run_slice_l' run_slice_lh' run_slice_h' run_index_str run_slice_str_l run_slice_str_h run_slice_str_lh
attribute [local go_sem] str_size str_append str_toL Lib.run_eql_slice_nil
theorem psize_pos {c i t : Int} {n : Nat} (h : psize c i t n ≠ 0) : (1 ≤ c ∧ c ≤ 2 ∧ 0 ≤ i ∧ i ≤ 255 ∧ 1 ≤ t ∧ t ≤ 255 ∧ n ≤ 4091) ∨ (3 ≤ c ∧ c ≤ 4 ∧ 0 ≤ i ∧ i ≤ 255 ∧ t = 0 ∧ n = 0) := by
  unfold psize at h
  split at h
  · split at h
    · split at h
      · left; omega
      · omega
    · split at h
      · right; omega
      · omega
  · omega

theorem refWrite_long (c i t : Int) (l : List UInt8) (w : World) (hc : 1 ≤ c) (hc2 : c ≤ 2) (hi : 0 ≤ i) (hi2 : i ≤ 255) (ht : 1 ≤ t) (ht2 : t ≤ 255) (hn : l.length ≤ 4091) :
    Calls Try.prog 10 #[.agg #[.int .i64 c, .int .i64 i, .int .i64 t, .string (str l)]] w fun e w' => e = .returned (.tuple #[.string (str (longBytes c i t l.length l)), .int .i64 0]) ∧ Below w.heap.size w w' := by
  have hs : rgt c i t l.length = true := rgt_yes (by unfold psize; rw [if_pos ⟨hi, hi2⟩, if_pos (by omega), if_pos ⟨ht, ht2, hn⟩]; omega)
  go_enter Try.func10, Try.ntmps10
  go_wp2_with fail
  refine (right_any _ _ _ _ (by omega) _).mono ?_
  rintro e w1 ⟨rfl, hb⟩
  rw [hs]
  clear hs
  have hc1 : ∀ o, w1.cell? ⟨w.heap.size, o, none⟩ = #[Value.int .i64 c, .int .i64 i, .int .i64 t, .string (str l)][o]? := fun o => by
    rw [hb.cell (p := ⟨w.heap.size, o, none⟩) (by simp)]; simp
  have hz1 : w.heap.size < w1.heap.size := by have := hb.size; simp at this; omega
  have hb1 : Below w.heap.size w w1 := ((Below.refl _ _).alloc (Nat.le_refl _) _).trans (hb.mono (by simp))
  have hb1s := hid hb1
  clear hb hb1
  have st1 := fun W H hH => run_str_lit (P := Try.prog) bt 9 Try.underlying9 [b8 t] #[.int .u8 t] (by simp only [u8s, List.map]; rw [u8_b8 (x := t) (by omega) (by omega)]) 1 rfl W H hH
  have st4 := fun W H hH => run_str_lit (P := Try.prog) bt 9 Try.underlying9 [b8 c, b8 i, b8 ((5 + l.length) / 256), b8 ((5 + l.length) % 256)] #[Value.int IntKind.u8 c, Value.int IntKind.u8 i, Value.int IntKind.u8 ((4 + (↑l.length + 1)) / 256), Value.int IntKind.u8 ((4 + (↑l.length + 1)) % 256)] (by rw [show (4 + ((l.length : Int) + 1)) = 5 + l.length from by omega]; simp only [u8s, List.map]; rw [u8_b8 (x := c) (by omega) (by omega), u8_b8 (x := i) (by omega) (by omega), u8_b8 (x := (5 + l.length) / 256) (by omega) (by omega), u8_b8 (x := (5 + l.length) % 256) (by omega) (by omega)]) 4 rfl W H hH
  go_wp2_with fail
  go_ret2
  refine ⟨rfl, ?_⟩
  repeat (first | exact hb1s.out | refine Below.alloc ?_ (by first | omega | (simp; omega)) _)

theorem refWrite_short (c i : Int) (w : World) (hc : 3 ≤ c) (hc2 : c ≤ 4) (hi : 0 ≤ i) (hi2 : i ≤ 255) :
    Calls Try.prog 10 #[.agg #[.int .i64 c, .int .i64 i, .int .i64 0, .string (str [])]] w fun e w' => e = .returned (.tuple #[.string (str [b8 c, b8 i, 0, 4]), .int .i64 0]) ∧ Below w.heap.size w w' := by
  have hs : rgt c i 0 0 = true := rgt_yes (by rw [psize_ne]; omega)
  go_enter Try.func10, Try.ntmps10
  go_wp2_with fail
  refine (right_any c i 0 [] (by simp) _).mono ?_
  rintro e w1 ⟨rfl, hb⟩
  rw [show ([] : List UInt8).length = 0 from rfl, hs]
  clear hs
  have hc1 : ∀ o, w1.cell? ⟨w.heap.size, o, none⟩ = #[Value.int .i64 c, .int .i64 i, .int .i64 0, .string (str [])][o]? := fun o => by
    rw [hb.cell (p := ⟨w.heap.size, o, none⟩) (by simp)]; simp
  have hz1 : w.heap.size < w1.heap.size := by have := hb.size; simp at this; omega
  have hb1 : Below w.heap.size w w1 := ((Below.refl _ _).alloc (Nat.le_refl _) _).trans (hb.mono (by simp))
  have hb1s := hid hb1
  clear hb hb1
  have st4 := fun W H hH => run_str_lit (P := Try.prog) bt 9 Try.underlying9 [b8 c, b8 i, 0, 4] #[Value.int IntKind.u8 c, Value.int IntKind.u8 i, Value.int IntKind.u8 0, Value.int IntKind.u8 4] (by simp only [u8s, List.map]; rw [u8_b8 (x := c) (by omega) (by omega), u8_b8 (x := i) (by omega) (by omega)]; rfl) 4 rfl W H hH
  go_wp2_with fail
  go_ret2
  refine ⟨rfl, ?_⟩
  repeat (first | exact hb1s.out | refine Below.alloc ?_ (by first | omega | (simp; omega)) _)

theorem refWrite_no (c i t : Int) (l : List UInt8) (w : World) (hn : l.length ≤ 140737488355328) (hs : psize c i t l.length = 0) :
    Calls Try.prog 10 #[.agg #[.int .i64 c, .int .i64 i, .int .i64 t, .string (str l)]] w fun e w' => e = .returned (.tuple #[.string (str []), .int .i64 2]) ∧ Below w.heap.size w w' := by
  have hs := rgt_no hs
  go_enter Try.func10, Try.ntmps10
  go_wp2_with fail
  refine (right_any _ _ _ _ hn _).mono ?_
  rintro e w1 ⟨rfl, hb⟩
  rw [hs]
  clear hs
  have hb1 : Below w.heap.size w w1 := ((Below.refl _ _).alloc (Nat.le_refl _) _).trans (hb.mono (by simp))
  have hb1s := hid hb1
  clear hb hb1
  go_wp2_with fail
  go_ret2
  exact ⟨rfl, hb1s.out⟩

/-- What a packet's bytes are (where it is in form). -/
def pbytes (c i t : Int) (l : List UInt8) : List UInt8 := if 1 ≤ c ∧ c ≤ 2 then longBytes c i t l.length l else [b8 c, b8 i, 0, 4]

theorem refWrite_yes (c i t : Int) (l : List UInt8) (w : World) (hs : psize c i t l.length ≠ 0) :
    Calls Try.prog 10 #[.agg #[.int .i64 c, .int .i64 i, .int .i64 t, .string (str l)]] w fun e w' => e = .returned (.tuple #[.string (str (pbytes c i t l)), .int .i64 0]) ∧ Below w.heap.size w w' := by
  rw [psize_ne] at hs
  rcases hs with ⟨hi, ⟨hc, ht, ht2, hn⟩ | ⟨hc, rfl, hn⟩⟩
  · rw [pbytes, if_pos (by omega)]
    exact refWrite_long c i t l w (by omega) (by omega) hi.1 hi.2 ht ht2 hn
  · rw [pbytes, if_neg (by omega)]
    obtain rfl : l = [] := List.eq_nil_of_length_eq_zero hn
    exact refWrite_short c i w (by omega) (by omega) hi.1 hi.2
theorem write_yes {B : Nat} (c i t : Int) (A : Option Addr) (n cap : Nat) (l : List UInt8) (w : World) (rd : Rd w B A n cap l) (hs : psize c i t n ≠ 0) :
    Calls Try.prog 9 #[.agg #[.int .i64 c, .int .i64 i, .int .i64 t, .slice A n cap]] w (RetBOk w (pbytes c i t l)) := by
  rw [psize_ne] at hs
  have hl := rd.len
  rcases hs with ⟨hi, ⟨hc, ht, ht2, hn⟩ | ⟨hc, rfl, hn⟩⟩
  · rw [pbytes, if_pos (by omega), hl]
    exact write_long c i t A n cap l w rd (by omega) (by omega) hi.1 hi.2 ht ht2 hn
  · rw [pbytes, if_neg (by omega)]
    subst hn
    exact write_short c i A cap w (by omega) (by omega) hi.1 hi.2
theorem pbytes_length {c i t : Int} {l : List UInt8} (hs : psize c i t l.length ≠ 0) : ((pbytes c i t l).length : Int) = psize c i t l.length := by
  have h := hs
  rw [psize_ne] at h
  rcases h with ⟨hi, ⟨hc, ht, ht2, hn⟩ | ⟨hc, rfl, hn⟩⟩
  · rw [pbytes, if_pos (by omega), psize, if_pos hi, if_pos hc, if_pos ⟨ht, ht2, hn⟩]
    simp [longBytes]; omega
  · rw [pbytes, if_neg (by omega), psize, if_pos hi, if_neg (by omega), if_pos ⟨hc, rfl, hn⟩]
    rfl
end Go.Proofs.Ytdkmmkjjcceahaa
