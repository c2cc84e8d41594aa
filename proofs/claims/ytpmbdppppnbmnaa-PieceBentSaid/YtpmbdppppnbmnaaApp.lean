/- append and copy. Over any program. -/
import Derived.Test.YtpmbdppppnbmnaaStore
namespace Go.Proofs.Ytpmbdppppnbmnaa
open Go Go.RowKit
set_option linter.unusedVariables false
set_option linter.unusedSimpArgs false

/-- What append's last argument is, to the model. -/
structure Src (P : Program) (w : World) (T2 : TypeId) (x2 : Value) (size m : Nat) (ys : List Value) : Prop where
  ty : (∃ e, P.underlying T2 = some (.slice e)) ∨ P.underlying T2 = some .string
  len : ∀ W, (Builtin.lenOf x2).run P W = .ok m W
  cells : ∀ n W, n ≤ m → W.heap = w.heap → (Builtin.firstCells size n x2).run P W = .ok (ys.take (n * size)).toArray W

/-- A slice into a row, or one without room. -/
def RowX (w : World) (s : Nat) (A : Option Addr) (n cap : Nat) (xs : List Value) (b : Nat) : Prop :=
  xs.length = n * s ∧ n ≤ cap ∧ cap ≤ maxLen ∧ ((n = 0 ∧ cap = 0) ∨ ∃ off cur E fz, A = some ⟨b, off, none⟩ ∧ w.heap[b]? = some (.cells cur E fz) ∧ Loose fz cur.size ∧ off + cap * s ≤ cur.size ∧ (cur.toList.drop off).take (n * s) = xs)

section
variable {P : Program} {w : World}
theorem cells_heap {w W : World} (h : W.heap = w.heap) (a : Addr) : W.cell? a = w.cell? a := by simp [World.cell?, h]
theorem src_slice {T2 E : TypeId} {size : Nat} {A : Option Addr} {m c : Nat} {ys : List Value} (ht : P.underlying T2 = some (.slice E)) {B : Nat} (rd : RdV w B size A m c ys) : Src P w T2 (.slice A m c) size m ys := by
  refine ⟨.inl ⟨_, ht⟩, fun W => rfl, fun n W hn hW => ?_⟩
  rcases A with _ | ad
  · have : ys = [] := by
      rcases Nat.eq_zero_or_pos m with h0 | h0
      · exact List.eq_nil_of_length_eq_zero (by rw [rd.len, h0, Nat.zero_mul])
      · obtain ⟨_, _, h, _⟩ := rd.cells h0
        cases h
    subst this
    rw [List.take_nil]
    exact run_firstCells_none W size n m c
  · have := Nat.mul_le_mul_right size hn
    exact run_firstCells_some W size n ad m c (ys.take (n * size)) (by rw [List.length_take, rd.len]; omega) (fun j v hv => by
      rw [cells_heap hW]
      rw [List.getElem?_take] at hv
      split at hv
      · exact rd.news ad rfl j v hv
      · cases hv)
theorem src_string {T2 : TypeId} (ht : P.underlying T2 = some .string) (l : List UInt8) : Src P w T2 (.string (str l)) 1 l.length (u8s l) := by
  refine ⟨.inr ht, fun W => rfl, fun n W hn hW => ?_⟩
  simp only [Builtin.firstCells]
  have : ((str l).extract 0 n).data.map (fun b => Value.int .u8 b.toNat) = ((u8s l).take (n * 1)).toArray := by
    rw [str_extract]
    apply Array.ext'
    simp [str, u8s, List.map_take]
    rfl
  rw [this]
  rfl

theorem run_append_x {T T2 E ty : TypeId} {z : Value} {s by_ : Nat} (bt : SlTy P T E z s by_) {A : Option Addr} {n cap b : Nat} {xs : List Value} (own : RowX w s A n cap xs b) {x2 : Value} {m : Nat} {ys : List Value} (src : Src P w T2 x2 s m ys)
    (hy : ys.length = m * s) (h1 : ∀ u ∈ ys, u.oneCell' = true) (hlen : n + m ≤ maxLen) (hbytes : (n + m) * by_ ≤ 140737488355328) :
    ∃ A' cap' w', (Builtin.append_ #[T, T2] ty #[.slice A n cap, x2]).run P w = .ok (.slice A' (n + m) cap') w' ∧ n + m ≤ cap' ∧ cap' ≤ maxLen ∧ w'.os = w.os ∧ w'.tape = w.tape ∧ w'.output = w.output ∧ w.heap.size ≤ w'.heap.size ∧
      ((n + m = 0 ∧ cap' = 0 ∧ w'.heap = w.heap) ∨ ∃ b' off cur E' fz, A' = some ⟨b', off, none⟩ ∧ w'.heap[b']? = some (.cells cur E' fz) ∧ Loose fz cur.size ∧ off + cap' * s ≤ cur.size ∧ (cur.toList.drop off).take ((n + m) * s) = xs ++ ys ∧
        ((b' = w.heap.size ∧ ∀ k, k < w.heap.size → w'.heap[k]? = w.heap[k]?) ∨ (0 < cap ∧ b' = b ∧ w'.heap.size = w.heap.size ∧ (∃ cur0 E0 fz0, w.heap[b]? = some (.cells cur0 E0 fz0) ∧ cur.size = cur0.size) ∧ ∀ k, k ≠ b → w'.heap[k]? = w.heap[k]?))) := by
  obtain ⟨i, hi, hz0, hz1, hz2⟩ := info_parts bt.info
  subst hz1
  subst hz2
  have hsmall : n + m ≤ 9223372036854775807 := by simp only [maxLen] at hlen; omega
  have hyt : ys.take (m * i.size) = ys := List.take_of_length_le (Nat.le_of_eq hy)
  obtain ⟨o1, o2, o3, o4⟩ := own
  by_cases hroom : n + m ≤ cap
  · have hfc := src.cells m w (Nat.le_refl _) rfl
    rw [hyt] at hfc
    rcases o4 with ⟨rfl, rfl⟩ | ⟨off, cur, E', fz, rfl, hh, hf, hs, htk⟩
    · have hm : m = 0 := by omega
      subst hm
      have hys : ys = [] := List.eq_nil_of_length_eq_zero (by simpa using hy)
      subst hys
      have hl0 := src.len w
      refine ⟨A, 0, w, ?_, Nat.le_refl _, by simp [maxLen], rfl, rfl, rfl, Nat.le_refl _, .inl ⟨rfl, rfl, rfl⟩⟩
      rcases A with _ | ad
      · rcases src.ty with ⟨e2, ht2⟩ | ht2 <;> simp [Builtin.append_, run_underlying bt.sl, run_underlying ht2, sizeOf, typeInfo, hi, hl0, hfc]
      · rcases src.ty with ⟨e2, ht2⟩ | ht2 <;> simp [Builtin.append_, run_underlying bt.sl, run_underlying ht2, sizeOf, typeInfo, hi, hl0, hfc, storeCells]
    · have hl0 := src.len w
      have hfit0 : n * i.size + ys.length ≤ cap * i.size := by rw [hy, ← Nat.add_mul]; exact Nat.mul_le_mul_right _ hroom
      have hfit : off + n * i.size + ys.length ≤ cur.size := by omega
      have hst := run_storeCells_loose P b (off + n * i.size) E' fz ys 0 cur w hh hf (by simpa using hfit) h1
      simp only [Nat.add_zero] at hst
      have hsz : (cur.toList.take (off + n * i.size) ++ ys ++ cur.toList.drop (off + n * i.size + ys.length)).toArray.size = cur.size := by
        simp only [List.size_toArray, List.length_append, List.length_take, List.length_drop, Array.length_toList]
        omega
      have hr : (Builtin.append_ #[T, T2] ty #[.slice (some ⟨b, off, none⟩) n cap, x2]).run P w =
          .ok (.slice (some ⟨b, off, none⟩) (n + m) cap) (w.setRow b (cur.toList.take (off + n * i.size) ++ ys ++ cur.toList.drop (off + n * i.size + ys.length)).toArray) := by
        rcases src.ty with ⟨e2, ht2⟩ | ht2 <;> simp [Builtin.append_, run_underlying bt.sl, run_underlying ht2, sizeOf, typeInfo, hi, hl0, hroom, hfc, Addr.add_lit, hst]
      by_cases hc0 : cap = 0
      · subst hc0
        obtain rfl : n = 0 := by omega
        obtain rfl : m = 0 := by omega
        have hys : ys = [] := List.eq_nil_of_length_eq_zero (by simpa using hy)
        subst hys
        have hw : w.setRow b (cur.toList.take (off + 0 * i.size) ++ [] ++ cur.toList.drop (off + 0 * i.size + 0)).toArray = w := by
          simp only [List.append_nil, Nat.zero_mul, Nat.add_zero, List.take_append_drop, Array.toArray_toList]
          exact setRow_self w b cur E' fz hh
        simp only [List.length_nil] at hr
        rw [hw] at hr
        exact ⟨_, _, _, hr, Nat.le_refl _, by simp [maxLen], rfl, rfl, rfl, Nat.le_refl _, .inl ⟨rfl, rfl, rfl⟩⟩
      · refine ⟨_, _, _, hr, hroom, o3, rfl, rfl, rfl, by simp, .inr ⟨b, off, _, E', fz, rfl, setRow_heap w b cur _ E' _ hh, by rw [hsz]; exact hf, by rw [hsz]; exact hs, ?_, .inr ⟨by omega, rfl, by simp, ⟨cur, E', fz, hh, hsz⟩, fun k hk => setRow_other w b k _ hk⟩⟩⟩
        have hd : (cur.toList.take (off + n * i.size)).drop off = xs := by
          rw [List.drop_take, ← htk]
          congr 1
          omega
        have hlt : off ≤ (cur.toList.take (off + n * i.size)).length := by
          simp only [List.length_take, Array.length_toList]
          omega
        have hxy : (xs ++ ys).length = (n + m) * i.size := by rw [List.length_append, o1, hy, Nat.add_mul]
        show List.take ((n + m) * i.size) (List.drop off (cur.toList.take (off + n * i.size) ++ ys ++ cur.toList.drop (off + n * i.size + ys.length))) = xs ++ ys
        rw [List.append_assoc, List.drop_append_of_le_length hlt, hd, ← List.append_assoc, ← hxy]
        exact List.take_left
  · have hl0 := src.len w
    have hfc := src.cells m w.drew (Nat.le_refl _) rfl
    rw [hyt] at hfc
    have hold : (Builtin.firstCells i.size n (.slice A n cap)).run P w.drew = .ok xs.toArray w.drew := by
      rcases o4 with ⟨rfl, rfl⟩ | ⟨off, cur, E', fz, rfl, hh, hf, hs, htk⟩
      · have hx : xs = [] := List.eq_nil_of_length_eq_zero (by simpa using o1)
        subst hx
        rcases A with _ | ad
        · exact run_firstCells_none w.drew i.size 0 0 0
        · exact run_firstCells_some w.drew i.size 0 ad 0 0 [] (by simp) (fun j v hv => by simp at hv)
      · refine run_firstCells_some w.drew i.size n ⟨b, off, none⟩ n cap xs o1 (fun j v hv => ?_)
        rw [add_lit]
        show w.cell? _ = _
        rw [cell_of_row w b (off + j) cur E' fz hh, ← Array.getElem?_toList]
        rw [← htk] at hv
        exact drop_take_get hv
    have hfit : Builtin.nextslicecap (n + m) cap * i.bytes ≤ 281474976710656 := growslice_fits (by omega) hbytes
    have hr : (Builtin.append_ #[T, T2] ty #[.slice A n cap, x2]).run P w =
        .ok (.slice (some ⟨w.heap.size, 0, none⟩) (n + m) (grownCap w (n + m) cap E)) (w.drew.alloc (.cells (xs.toArray ++ ys.toArray ++ Builtin.zeroCells z.cells (grownCap w (n + m) cap E - (n + m))) E)) := by
      have hn : ¬ (n + m ≤ cap) := hroom
      have h63' : ¬ (9223372036854775807 < ((n : Int) + (m : Int))) := by omega
      have h48' : ¬ (281474976710656 < Builtin.nextslicecap (n + m) cap * i.bytes) := by omega
      rcases src.ty with ⟨e2, ht2⟩ | ht2 <;> simp [Builtin.append_, run_underlying bt.sl, run_underlying ht2, sizeOf, typeInfo, zeroValue, hi, hz0, hl0, hn, h63', h48', Question.forced, hfc, hold, newRow, grownCap] <;> (congr 2; apply Array.ext'; simp [List.append_assoc])
    have hge := grownCap_ge w (n + m) cap E
    have hcm := grownCap_le_maxLen w (n + m) cap E hlen
    refine ⟨_, _, _, hr, hge, hcm, rfl, rfl, rfl, by simp, .inr ⟨w.heap.size, 0, _, E, (0, 0), rfl, heap_alloc_new w.drew _, Loose.zero _, ?_, ?_, .inl ⟨rfl, fun k hk => Below.heap_alloc w.drew _ k hk⟩⟩⟩
    · simp only [Array.size_append, List.size_toArray, size_zeroCells, bt.zs, o1, hy, ← Nat.add_mul, Nat.zero_add]
      apply Nat.mul_le_mul_right
      omega
    · have hxy : (xs ++ ys).length = (n + m) * i.size := by rw [List.length_append, o1, hy, Nat.add_mul]
      simp only [Array.toList_append, List.append_assoc, List.drop_zero]
      rw [← List.append_assoc, ← hxy]
      exact List.take_left
end
end Go.Proofs.Ytpmbdppppnbmnaa
