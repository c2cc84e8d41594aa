/- What Read answers of any bytes, the program's and the reference's, by one function; the plain law between them. No condition but that bytes are no longer than memory bears. -/
import Derived.Test.YtdkmmkjjcceahaaEapJ
import Derived.Test.YtdkmmkjjcceahaaEapK
import Derived.Test.YtdkmmkjjcceahaaEapD
namespace Go.Proofs.Ytdkmmkjjcceahaa
open Go.RowKit
set_option linter.unusedVariables false
set_option linter.unusedSimpArgs false
attribute [local go_sem ↓] run_slice_l' run_slice_lh' run_slice_h' run_index_str run_slice_str_l run_slice_str_h run_slice_str_lh
attribute [local go_sem] str_size str_append str_toL Lib.run_eql_slice_nil
def tt (l : List UInt8) : Int := if l.length = 4 then 0 else (gb l 4).toNat
def dd (l : List UInt8) : List UInt8 := if l.length = 4 then [] else l.drop 5
def okP (l : List UInt8) : Prop := n2 l = l.length ∧ psize (gb l 0).toNat (gb l 1).toNat (tt l) (dd l).length = l.length
instance (l : List UInt8) : Decidable (okP l) := by unfold okP; infer_instance

structure Pk where
  c : Int
  i : Int
  t : Int
  d : List UInt8
  e : Int

/-- What Read answers. -/
def readF (l : List UInt8) : Pk :=
  if l.length < 4 ∨ l.length < n2 l then ⟨0, 0, 0, [], 3⟩
  else if okP l then ⟨(gb l 0).toNat, (gb l 1).toNat, tt l, dd l, 0⟩ else ⟨0, 0, 0, [], 2⟩

theorem list5 {l : List UInt8} (h : 5 ≤ l.length) : ∃ a b c d e r, l = a :: b :: c :: d :: e :: r := by
  match l, h with
  | a :: b :: c :: d :: e :: r, _ => exact ⟨a, b, c, d, e, r, rfl⟩
theorem list4 {l : List UInt8} (h : l.length = 4) : ∃ a b c d, l = [a, b, c, d] := by
  match l, h with
  | [a, b, c, d], _ => exact ⟨a, b, c, d, rfl⟩
theorem b8_inj {x : Int} {y : UInt8} (h0 : 0 ≤ x) (h1 : x ≤ 255) : b8 x = y ↔ x = (y.toNat : Int) := by
  constructor
  · rintro rfl; rw [b8_toNat h0 h1]
  · rintro rfl; exact b8_of y

theorem ok_long {l : List UInt8} (h5 : 5 ≤ l.length) (hc : (gb l 0).toNat < 3) :
    (psize (gb l 0).toNat (gb l 1).toNat (gb l 4).toNat (l.drop 5).length ≠ 0 ∧ pbytes (gb l 0).toNat (gb l 1).toNat (gb l 4).toNat (l.drop 5) = l) ↔ okP l := by
  unfold okP
  rw [show tt l = (gb l 4).toNat from if_neg (by omega), show dd l = l.drop 5 from if_neg (by omega)]
  obtain ⟨a, b, c, d, e, r, rfl⟩ := list5 h5
  simp only [n2, gb_def, List.getD_cons_zero, List.getD_cons_succ, List.drop_succ_cons, List.drop_zero, List.length_cons] at *
  have ha := a.toNat_lt
  have hb := b.toNat_lt
  have hcc := c.toNat_lt
  have hd := d.toNat_lt
  have he := e.toNat_lt
  constructor
  · rintro ⟨h, hp⟩
    have hl := pbytes_length h
    rw [hp] at hl
    simp only [List.length_cons] at hl
    refine ⟨?_, by omega⟩
    have h' := h
    rw [psize_ne] at h'
    rw [pbytes, if_pos (by omega)] at hp
    simp only [longBytes, List.cons_append, List.nil_append, List.cons.injEq] at hp
    obtain ⟨_, _, h3, h4, _⟩ := hp
    rw [b8_inj (by omega) (by omega)] at h3 h4
    omega
  · rintro ⟨h2, hs⟩
    have hne : psize a.toNat b.toNat e.toNat r.length ≠ 0 := by omega
    refine ⟨hne, ?_⟩
    have h' := hne
    rw [psize_ne] at h'
    have hr : r.length ≤ 4091 := by omega
    rw [pbytes, if_pos (by omega)]
    simp only [longBytes, List.cons_append, List.nil_append, b8_of, List.cons.injEq, true_and, and_true]
    rw [b8_inj (by omega) (by omega), b8_inj (by omega) (by omega)]
    have : psize a.toNat b.toNat e.toNat r.length = 5 + r.length := by
      rw [psize, if_pos h'.1, if_pos (by omega), if_pos (by omega)]
    omega

theorem ok_end {l : List UInt8} (h4 : 4 ≤ l.length) (hc : 3 ≤ (gb l 0).toNat) :
    (psize (gb l 0).toNat (gb l 1).toNat 0 0 ≠ 0 ∧ pbytes (gb l 0).toNat (gb l 1).toNat 0 [] = l) ↔ okP l := by
  by_cases hl : l.length = 4
  · unfold okP
    rw [show tt l = 0 from if_pos hl, show dd l = [] from if_pos hl]
    obtain ⟨a, b, c, d, rfl⟩ := list4 hl
    simp only [n2, gb_def, List.getD_cons_zero, List.getD_cons_succ, List.length_cons, List.length_nil] at *
    have hcc := c.toNat_lt
    have hd := d.toNat_lt
    constructor
    · rintro ⟨h, hp⟩
      have hpl := pbytes_length (l := []) h
      rw [hp] at hpl
      refine ⟨?_, by simpa using hpl.symm⟩
      rw [pbytes, if_neg (by omega)] at hp
      simp only [List.cons.injEq, and_true] at hp
      obtain ⟨_, _, h3, h4⟩ := hp
      rw [← h3, ← h4]
      rfl
    · rintro ⟨h2, hs⟩
      refine ⟨by rw [hs]; omega, ?_⟩
      rw [pbytes, if_neg (by omega), b8_of, b8_of]
      have h3 : c = 0 := UInt8.toNat_inj.1 (by show c.toNat = 0; omega)
      have h4 : d = 4 := UInt8.toNat_inj.1 (by show d.toNat = 4; omega)
      rw [h3, h4]
  · constructor
    · rintro ⟨h, hp⟩
      rw [pbytes, if_neg (by omega)] at hp
      rw [← hp] at hl
      simp at hl
    · rintro ⟨_, h⟩
      exfalso
      rw [show dd l = l.drop 5 from if_neg hl] at h
      have hne : psize (gb l 0).toNat (gb l 1).toNat (tt l) (l.drop 5).length ≠ 0 := by omega
      rw [psize_ne] at hne
      have : psize (gb l 0).toNat (gb l 1).toNat (tt l) (l.drop 5).length = 4 := by
        rw [psize, if_pos hne.1, if_neg (by omega), if_pos (by omega)]
      omega
theorem not_ok_bare {l : List UInt8} (h4 : l.length = 4) (hc : (gb l 0).toNat < 3) : ¬ okP l := by
  rintro ⟨_, h⟩
  rw [show tt l = 0 from if_pos h4, show dd l = [] from if_pos h4] at h
  have hne : psize (gb l 0).toNat (gb l 1).toNat 0 ([] : List UInt8).length ≠ 0 := by omega
  rw [psize_ne] at hne
  omega

def RetPkF (w : World) (p : Pk) (e : Ending) (w' : World) : Prop :=
  ∃ A cap, e = .returned (.tuple #[.agg #[.int .i64 p.c, .int .i64 p.i, .int .i64 p.t, .slice A p.d.length cap], .int .i64 p.e]) ∧ Own w' w.heap.size 5 A p.d.length cap p.d ∧ Below w.heap.size w w'
def RetRefF (w : World) (p : Pk) (e : Ending) (w' : World) : Prop :=
  e = .returned (.tuple #[.agg #[.int .i64 p.c, .int .i64 p.i, .int .i64 p.t, .string (str p.d)], .int .i64 p.e]) ∧ Below w.heap.size w w'

theorem RetNoPk.f {w : World} {k : Int} {e : Ending} {w' : World} (h : RetNoPk w k e w') : RetPkF w ⟨0, 0, 0, [], k⟩ e w' := ⟨none, 0, h.1, Own.nil_ _ _ _, h.2⟩
theorem RetPk.f {w : World} {c i t : Int} {l : List UInt8} {e : Ending} {w' : World} (h : RetPk w c i t l e w') : RetPkF w ⟨c, i, t, l, 0⟩ e w' := by
  obtain ⟨A, n, cap, he, own, hb⟩ := h
  obtain rfl := own.len
  exact ⟨A, cap, he, own, hb⟩

theorem read_any {B : Nat} (A : Option Addr) (n cap : Nat) (l : List UInt8) (w : World) (rd : Rd w B A n cap l) (hn : n ≤ 140737488355328) :
    Calls Try.prog 13 #[.slice A n cap] w (RetPkF w (readF l)) := by
  obtain rfl := rd.len
  by_cases h4 : l.length < 4
  · rw [readF, if_pos (.inl h4)]
    exact (read_few A _ cap w h4).mono fun e w' h => h.f
  by_cases hlt : l.length < n2 l
  · rw [readF, if_pos (.inr hlt)]
    exact (read_tail A _ cap l w rd (by omega) hn hlt).mono fun e w' h => h.f
  rw [readF, if_neg (by omega)]
  by_cases hl : l.length = 4
  · have hok : okP l ↔ (n2 l = 4 ∧ psize (gb l 0).toNat (gb l 1).toNat 0 0 = 4) := by
      unfold okP
      rw [show tt l = 0 from if_pos hl, show dd l = [] from if_pos hl, hl]
      rfl
    rw [show tt l = 0 from if_pos hl, show dd l = [] from if_pos hl]
    have h := read_four A cap l w (by rw [← hl]; exact rd) (by omega)
    rw [← hl] at h
    refine h.mono fun e w' hr => ?_
    rw [hl, ← hok] at hr
    by_cases ho : okP l
    · rw [if_pos ho]; exact (hr.1 ho).f
    · rw [if_neg ho]; exact (hr.2 ho).f
  · have hok : okP l ↔ (n2 l = l.length ∧ psize (gb l 0).toNat (gb l 1).toNat (gb l 4).toNat (l.length - 5) = l.length) := by
      unfold okP
      rw [show tt l = (gb l 4).toNat from if_neg hl, show dd l = l.drop 5 from if_neg hl, List.length_drop]
    rw [show tt l = (gb l 4).toNat from if_neg hl, show dd l = l.drop 5 from if_neg hl]
    refine (read_five A _ cap l w rd hn (by omega) (by omega)).mono fun e w' hr => ?_
    rw [← hok] at hr
    by_cases ho : okP l
    · rw [if_pos ho]; exact (hr.1 ho).f
    · rw [if_neg ho]; exact (hr.2 ho).f

theorem refRead_any (l : List UInt8) (w : World) (hn : l.length ≤ 140737488355328) :
    Calls Try.prog 14 #[.string (str l)] w (RetRefF w (readF l)) := by
  by_cases h4 : l.length < 4
  · rw [readF, if_pos (.inl h4)]
    exact refRead_few l w h4
  by_cases hlt : l.length < n2 l
  · rw [readF, if_pos (.inr hlt)]
    exact refRead_tail l w hn (by omega) hlt
  rw [readF, if_neg (by omega)]
  by_cases hc : (gb l 0).toNat < 3
  · by_cases hl : l.length = 4
    · rw [if_neg (not_ok_bare hl hc)]
      exact refRead_bare l w hl (by omega) hc
    · refine (refRead_long l w hn (by omega) (by omega) hc (by omega)).mono fun e w' hr => ?_
      rw [ok_long (by omega) hc] at hr
      rw [show tt l = (gb l 4).toNat from if_neg hl, show dd l = l.drop 5 from if_neg hl]
      by_cases ho : okP l
      · rw [if_pos ho]; exact hr.1 ho
      · rw [if_neg ho]; exact hr.2 ho
  · refine (refRead_end l w hn (by omega) (by omega) (by omega)).mono fun e w' hr => ?_
    rw [ok_end (by omega) (by omega)] at hr
    by_cases ho : okP l
    · rw [if_pos ho]
      have hl : l.length = 4 := by
        have := (ok_end (by omega) (by omega)).2 ho
        rw [pbytes, if_neg (by omega)] at this
        rw [← this.2]; rfl
      rw [show tt l = 0 from if_pos hl, show dd l = [] from if_pos hl]
      exact hr.1 ho
    · rw [if_neg ho]; exact hr.2 ho
end Go.Proofs.Ytdkmmkjjcceahaa
