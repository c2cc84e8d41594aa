/- Words for memory, over any program: a slice that reads as a row of cells, a slice of the call's own (its cells not frozen), and append between them. No condition beyond what each lemma states. -/
import Derived.WalkKit
import Derived.WalkSpells
import Derived.WalkLawsBesides
import Derived.Below
import Derived.Outline
import Derived.Deep.Draws
import Derived.Laws.CopyRow
import Derived.Laws.Append
import Derived.Laws.AppendOwn
import Derived.Lib.ConvBytes
namespace Go.Proofs.Ytpmbdppppnbmnaa
open Go.RowKit
set_option linter.unusedVariables false
set_option linter.unusedSimpArgs false

theorem hid {p : Prop} (h : p) : Hid p := h

/-- The block in which a slice lies. -/
def blk (A : Option Addr) : Option Nat := A.map (·.block)
theorem add_lit (g o j : Nat) : (⟨g, o, none⟩ : Addr).add j = ⟨g, o + j, none⟩ := by unfold Addr.add; split <;> simp_all

/-- Of a row of so many cells none is frozen. -/
def Loose (fz : Nat × Nat) (size : Nat) : Prop := size ≤ fz.1 ∨ fz.2 = fz.1
theorem Loose.zero (size : Nat) : Loose (0, 0) size := .inr rfl
theorem Loose.free {w : World} {g : Nat} {cur : Array Value} {t : TypeId} {fz : Nat × Nat} (hg : w.heap[g]? = some (.cells cur t fz)) (hf : Loose fz cur.size) {i : Nat} (hi : i < cur.size) : w.frozen? ⟨g, i, none⟩ = false := by
  obtain ⟨lo, hi'⟩ := fz
  simp only [World.frozen?, hg, Bool.and_eq_false_iff, decide_eq_false_iff_not]
  rcases hf with h | h
  · left; simp only at h; omega
  · simp only at h; omega

theorem run_storeCells_loose (P : Program) (g o : Nat) (t : TypeId) (fz : Nat × Nat) : ∀ (vs : List Value) (i : Nat) (cur : Array Value) (w : World), w.heap[g]? = some (.cells cur t fz) → Loose fz cur.size → o + i + vs.length ≤ cur.size → (∀ v ∈ vs, v.oneCell' = true) →
    (storeCells ⟨g, o, none⟩ vs i).run P w = .ok () (w.setRow g (cur.toList.take (o + i) ++ vs ++ cur.toList.drop (o + i + vs.length)).toArray)
  | [], i, cur, w, hg, _, _, _ => by
    simp only [storeCells, List.append_nil, List.length_nil, Nat.add_zero, List.take_append_drop, Array.toArray_toList]
    rw [setRow_self w g cur t fz hg]
    rfl
  | v :: rest, i, cur, w, hg, hfz, hl, h1 => by
    have hi : o + i < cur.size := by simp at hl; omega
    have hcell : w.cell? ⟨g, o + i, none⟩ = some cur[o + i] := by simp [World.cell?, hg, hi]
    have hfro : w.frozen? ⟨g, o + i, none⟩ = false := Loose.free hg hfz hi
    have hst : (store ((⟨g, o, none⟩ : Addr).add i) v).run P w = .ok () (w.setRow g (cur.setIfInBounds (o + i) v)) := by
      rw [add_lit, run_store P w _ v _ (h1 v (by simp)), hcell]
      simp [hfro, setCell_eq_setRow w g (o + i) cur t fz v hg]
    have ih := run_storeCells_loose P g o t fz rest (i + 1) (cur.setIfInBounds (o + i) v) (w.setRow g (cur.setIfInBounds (o + i) v)) (setRow_heap w g cur _ t _ hg) (by simpa using hfz) (by simp at hl ⊢; omega) (fun x hx => h1 x (by simp [hx]))
    simp only [storeCells, Sem.run_bind, hst, Result.andThen_ok, ih, setRow_setRow]
    congr 3
    have e := list_seg_step cur.toList (o + i) v rest (by simp at hl ⊢; omega)
    simpa [Array.toList_setIfInBounds, Nat.add_assoc] using e

/-- The address of 's[k:]'. -/
def cutA (A : Option Addr) (cap k size : Nat) : Option Addr := if cap = k then A else A.map (·.add (k * size))

/-- The slice '.slice A n cap', of n elements of s cells each, reads as the cells xs; where it is not empty it lies below block B. -/
structure RdV (w : World) (B s : Nat) (A : Option Addr) (n cap : Nat) (xs : List Value) : Prop where
  len : xs.length = n * s
  le : n ≤ cap
  max : cap ≤ maxLen
  bd : B ≤ w.heap.size
  cells : 0 < n → ∃ b off, A = some ⟨b, off, none⟩ ∧ b < B ∧ ∀ (i : Nat) (u : Value), xs[i]? = some u → w.cell? ⟨b, off + i, none⟩ = some u

section
variable {w w' : World} {B B' s : Nat} {A : Option Addr} {n cap : Nat} {xs : List Value}
theorem RdV.nil_ (w : World) (s : Nat) : RdV w 0 s none 0 0 [] := ⟨by simp, Nat.le_refl _, by simp [maxLen], Nat.zero_le _, fun h => absurd h (by omega)⟩
theorem RdV.keep (h : RdV w B s A n cap xs) (hs : w.heap.size ≤ w'.heap.size) (hk : ∀ g o, g < B → w'.cell? ⟨g, o, none⟩ = w.cell? ⟨g, o, none⟩) : RdV w' B s A n cap xs :=
  ⟨h.len, h.le, h.max, Nat.le_trans h.bd hs, fun hn => by
    obtain ⟨b, off, e, hb, hc⟩ := h.cells hn
    exact ⟨b, off, e, hb, fun i u hu => (hk b _ hb).trans (hc i u hu)⟩⟩
theorem RdV.below (h : RdV w B s A n cap xs) (hb : Below B' w w') (hB : B ≤ B') : RdV w' B s A n cap xs :=
  h.keep hb.size fun g o hg => hb.cell (p := ⟨g, o, none⟩) (by show g < B'; omega)
theorem RdV.ext (h : RdV w B s A n cap xs) (hb : Below w.heap.size w w') : RdV w' B s A n cap xs := h.below hb h.bd
theorem RdV.up (h : RdV w B s A n cap xs) (hB : B ≤ B') (hs : B' ≤ w.heap.size) : RdV w B' s A n cap xs :=
  ⟨h.len, h.le, h.max, hs, fun hn => by
    obtain ⟨b, off, e, hb, hc⟩ := h.cells hn
    exact ⟨b, off, e, by omega, hc⟩⟩
theorem RdV.drew (h : RdV w B s A n cap xs) : RdV w.drew B s A n cap xs := ⟨h.len, h.le, h.max, h.bd, h.cells⟩
theorem RdV.drewN (h : RdV w B s A n cap xs) (k : Nat) : RdV (w.drewN k) B s A n cap xs := ⟨h.len, h.le, h.max, h.bd, h.cells⟩
theorem RdV.alloc (h : RdV w B s A n cap xs) (o : Obj) : RdV (w.alloc o) B s A n cap xs := h.ext ((Below.refl _ _).alloc (Nat.le_refl _) o)
theorem RdV.grown (h : RdV w B s A n cap xs) {row : Option Nat} (hg : w.grownBy w' row) (hne : ∀ g, row = some g → B ≤ g) : RdV w' B s A n cap xs :=
  h.keep hg.size fun g o hlt => World.cell?_of_block (a := ⟨g, o, none⟩) (hg.block g (by have := h.bd; show g < _; omega) (fun e => by have := hne g e.symm; omega))
theorem RdV.setCell (h : RdV w B s A n cap xs) {p : Addr} (hp : B ≤ p.block) (u : Value) : RdV (w.setCell p u) B s A n cap xs :=
  h.below ((Below.refl B w).setCell hp u) (Nat.le_refl _)
/-- The cells, said as append's laws ask for them. -/
theorem RdV.news (h : RdV w B s A n cap xs) (ad : Addr) (hA : A = some ad) : ∀ j u, xs[j]? = some u → w.cell? (ad.add j) = some u := by
  intro j u hu
  have hn : 0 < n := by
    have := (List.getElem?_eq_some_iff.1 hu).1
    rw [h.len] at this
    rcases Nat.eq_zero_or_pos n with h0 | h0
    · subst h0; simp at this
    · exact h0
  obtain ⟨b, off, e, _, hc⟩ := h.cells hn
  rw [hA] at e
  injection e with e
  subst e
  rw [add_lit]
  exact hc j u hu
/-- 's[k:]' as the model cuts it. -/
theorem RdV.cut (h : RdV w B s A n cap xs) {k : Nat} (hk : k ≤ n) : RdV w B s (cutA A cap k s) (n - k) (cap - k) (xs.drop (k * s)) := by
  unfold cutA
  have hle := h.le
  have hmax := h.max
  refine ⟨by rw [List.length_drop, h.len, Nat.sub_mul], by omega, by omega, h.bd, fun hn => ?_⟩
  obtain ⟨b, off, rfl, hb, hc⟩ := h.cells (by omega)
  rw [if_neg (by omega)]
  refine ⟨b, off + k * s, by simp [add_lit], hb, fun i u hu => ?_⟩
  rw [Nat.add_assoc]
  exact hc _ u (by rw [← hu, List.getElem?_drop])
/-- 's[:k]'. -/
theorem RdV.take (h : RdV w B s A n cap xs) {k : Nat} (hk : k ≤ n) : RdV w B s A k cap (xs.take (k * s)) := by
  have hle := h.le
  refine ⟨by rw [List.length_take, h.len]; exact Nat.min_eq_left (Nat.mul_le_mul_right _ hk), by omega, h.max, h.bd, fun hn => ?_⟩
  obtain ⟨b, off, e, hb, hc⟩ := h.cells (by omega)
  refine ⟨b, off, e, hb, fun i u hu => hc i u ?_⟩
  rw [List.getElem?_take] at hu
  split at hu
  · exact hu
  · cases hu
end

/-- The slice '.slice A n cap' owns the cells xs: it is nil, or it begins at the head of a row (numbered from B on), of which no cell is frozen. -/
def OwnV (w : World) (B : Nat) (E : TypeId) (s : Nat) (A : Option Addr) (n cap : Nat) (xs : List Value) : Prop :=
  xs.length = n * s ∧ n ≤ cap ∧ cap ≤ maxLen ∧
  ((A = none ∧ cap = 0) ∨ ∃ g cur fz, A = some ⟨g, 0, none⟩ ∧ B ≤ g ∧ w.heap[g]? = some (.cells cur E fz) ∧ Loose fz cur.size ∧ cur.size = cap * s ∧ cur.toList.take (n * s) = xs)

theorem grownBy_of_below {w w' : World} (hb : Below w.heap.size w w') (row : Option Nat) : w.grownBy w' row := ⟨hb.os, hb.tape, hb.output, hb.size, fun i hi _ => hb.block i hi⟩

theorem grownBy_set {a w : World} {g : Nat} (h : a.grownBy w (some g)) (i : Nat) (u : Value) : a.grownBy (w.setCell ⟨g, i, none⟩ u) (some g) :=
  ⟨h.os, h.tape, h.output, by simpa [World.setCell] using h.size, fun k hk hne => (Below.heap_setCell w ⟨g, i, none⟩ u k (fun e => hne (by rw [e]))).trans (h.block k hk hne)⟩
theorem grownBy_ext {a w w' : World} {row : Option Nat} (h : a.grownBy w row) (hb : Below w.heap.size w w') : a.grownBy w' row :=
  ⟨hb.os.trans h.os, hb.tape.trans h.tape, hb.output.trans h.output, Nat.le_trans h.size hb.size, fun k hk hne => (hb.block k (Nat.lt_of_lt_of_le hk h.size)).trans (h.block k hk hne)⟩

section
variable {w w' : World} {A : Option Addr} {n cap B s : Nat} {E : TypeId} {xs : List Value}
theorem OwnV.nil_ (w : World) (B : Nat) (E : TypeId) (s : Nat) : OwnV w B E s none 0 0 [] := ⟨by simp, Nat.le_refl _, by simp [maxLen], .inl ⟨rfl, rfl⟩⟩
theorem OwnV.len (h : OwnV w B E s A n cap xs) : xs.length = n * s := h.1
theorem OwnV.lt (h : OwnV w B E s A n cap xs) : ∀ g, blk A = some g → B ≤ g ∧ g < w.heap.size := by
  intro g hg
  rcases h.2.2.2 with ⟨rfl, _⟩ | ⟨g', cur, fz, rfl, hb, hh, _⟩
  · simp [blk] at hg
  · simp only [blk, Option.map_some, Option.some.injEq] at hg
    subst hg
    exact ⟨hb, (Array.getElem?_eq_some_iff.1 hh).1⟩
theorem OwnV.rd (h : OwnV w B E s A n cap xs) : RdV w w.heap.size s A n cap xs := by
  obtain ⟨h1, h2, h3, h4⟩ := h
  refine ⟨h1, h2, h3, Nat.le_refl _, fun hn => ?_⟩
  rcases h4 with ⟨_, h0⟩ | ⟨g, cur, fz, rfl, hb, hh, _, hs, ht⟩
  · omega
  · refine ⟨g, 0, rfl, (Array.getElem?_eq_some_iff.1 hh).1, fun i u hu => ?_⟩
    rw [Nat.zero_add, cell_of_row w g i cur E fz hh, ← Array.getElem?_toList]
    rw [← ht, List.getElem?_take] at hu
    split at hu
    · exact hu
    · cases hu
theorem OwnV.kept {row : Option Nat} (h : OwnV w B E s A n cap xs) (hg : w.grownBy w' row) (hne : ∀ g, blk A = some g → some g ≠ row) : OwnV w' B E s A n cap xs := by
  obtain ⟨h1, h2, h3, h4⟩ := h
  refine ⟨h1, h2, h3, ?_⟩
  rcases h4 with h0 | ⟨g, cur, fz, rfl, hb, hh, r⟩
  · exact .inl h0
  · exact .inr ⟨g, cur, fz, rfl, hb, (hg.block g (Array.getElem?_eq_some_iff.1 hh).1 (hne g rfl)).trans hh, r⟩
theorem OwnV.ext (h : OwnV w B E s A n cap xs) (hb : Below w.heap.size w w') : OwnV w' B E s A n cap xs := by
  refine h.kept (grownBy_of_below hb none) ?_
  intro g _
  simp
theorem OwnV.drew (h : OwnV w B E s A n cap xs) : OwnV w.drew B E s A n cap xs := h
theorem OwnV.drewN (h : OwnV w B E s A n cap xs) (k : Nat) : OwnV (w.drewN k) B E s A n cap xs := h
theorem OwnV.alloc (h : OwnV w B E s A n cap xs) (o : Obj) : OwnV (w.alloc o) B E s A n cap xs := h.ext ((Below.refl _ _).alloc (Nat.le_refl _) o)
theorem OwnV.far (h : OwnV w B E s A n cap xs) {p : Addr} (hp : p.block < B) (u : Value) : OwnV (w.setCell p u) B E s A n cap xs := by
  obtain ⟨h1, h2, h3, h4⟩ := h
  refine ⟨h1, h2, h3, ?_⟩
  rcases h4 with h0 | ⟨g, cur, fz, rfl, hb, hh, r⟩
  · exact .inl h0
  · exact .inr ⟨g, cur, fz, rfl, hb, (Below.heap_setCell w p u g (by omega)).trans hh, r⟩
theorem OwnV.lower {B' : Nat} (h : OwnV w B E s A n cap xs) (hB : B' ≤ B) : OwnV w B' E s A n cap xs := by
  obtain ⟨h1, h2, h3, h4⟩ := h
  refine ⟨h1, h2, h3, ?_⟩
  rcases h4 with h0 | ⟨g, cur, fz, rfl, hb, r⟩
  · exact .inl h0
  · exact .inr ⟨g, cur, fz, rfl, by omega, r⟩
/-- A row that was just laid. -/
theorem OwnV.lit (w : World) (hB : B ≤ w.heap.size) (cs : Array Value) (H n : Nat) (hH : H = w.heap.size) (hn : cs.size = n * s) (hm : n ≤ maxLen) :
    OwnV (w.alloc (.cells cs E)) B E s (some ⟨H, 0, none⟩) n n cs.toList := by
  subst hH
  exact ⟨by simpa using hn, Nat.le_refl _, hm, .inr ⟨_, cs, (0, 0), rfl, hB, heap_alloc_new w _, Loose.zero _, hn, List.take_of_length_le (by simp [hn])⟩⟩
/-- What it is where it is not empty. -/
theorem OwnV.some_ (h : OwnV w B E s A n cap xs) (hn : 0 < n) : ∃ g, A = some ⟨g, 0, none⟩ ∧ B ≤ g ∧ g < w.heap.size ∧ (∀ i, i < n * s → w.frozen? ⟨g, i, none⟩ = false) ∧ ∀ i u, xs[i]? = some u → w.cell? ⟨g, i, none⟩ = some u := by
  have hr := h.rd
  obtain ⟨h1, h2, h3, h4⟩ := h
  rcases h4 with ⟨_, h0⟩ | ⟨g, cur, fz, rfl, hb, hh, hf, hs, ht⟩
  · omega
  · refine ⟨g, rfl, hb, (Array.getElem?_eq_some_iff.1 hh).1, fun i hi => Loose.free hh hf ?_, fun i u hu => ?_⟩
    · rw [hs]
      exact Nat.lt_of_lt_of_le hi (Nat.mul_le_mul_right _ h2)
    · have := hr.news ⟨g, 0, none⟩ rfl i u hu
      rwa [add_lit, Nat.zero_add] at this
/-- A store into it. -/
theorem OwnV.stored {g : Nat} (h : OwnV w B E s (some ⟨g, 0, none⟩) n cap xs) (i : Nat) (u : Value) : OwnV (w.setCell ⟨g, i, none⟩ u) B E s (some ⟨g, 0, none⟩) n cap (xs.set i u) := by
  obtain ⟨h1, h2, h3, h4⟩ := h
  refine ⟨by simpa using h1, h2, h3, ?_⟩
  rcases h4 with ⟨h0, _⟩ | ⟨g', cur, fz, he, hb, hh, hf, hs, ht⟩
  · cases h0
  · injection he with he
    injection he with he
    subst he
    refine .inr ⟨g, cur.setIfInBounds i u, fz, rfl, hb, ?_, by simpa using hf, by simpa using hs, ?_⟩
    · rw [setCell_eq_setRow w g i cur E fz u hh]
      exact setRow_heap w g cur _ E fz hh
    · rw [Array.toList_setIfInBounds, ← ht, List.take_set]
/-- 's[:k]' of it. -/
theorem OwnV.take (h : OwnV w B E s A n cap xs) {k : Nat} (hk : k ≤ n) : OwnV w B E s A k cap (xs.take (k * s)) := by
  obtain ⟨h1, h2, h3, h4⟩ := h
  refine ⟨by rw [List.length_take, h1]; exact Nat.min_eq_left (Nat.mul_le_mul_right _ hk), by omega, h3, ?_⟩
  rcases h4 with h0 | ⟨g, cur, fz, rfl, hb, hh, hf, hs, ht⟩
  · exact .inl h0
  · refine .inr ⟨g, cur, fz, rfl, hb, hh, hf, hs, ?_⟩
    rw [← ht, List.take_take, Nat.min_eq_left (Nat.mul_le_mul_right _ hk)]
end

/-- What is known of a slice type T with elements of type E. -/
structure SlTy (P : Program) (T E : TypeId) (z : Value) (s by_ : Nat) : Prop where
  sl : P.underlying T = some (.slice E)
  info : (P.info? E).map (fun i => (i.zero, i.size, i.bytes)) = some (some z, s, by_)
  zs : z.cells.size = s
  pos : 0 < s

section
variable {P : Program} (w : World) {T E : TypeId} {z : Value} {s by_ : Nat}

theorem run_append_v (bt : SlTy P T E z s by_) (ty : TypeId) (B : Nat) (A : Option Addr) (n cap : Nat) (xs : List Value) (own : OwnV w B E s A n cap xs) (A2 : Option Addr) (m c : Nat) (ys : List Value) {B2 : Nat} (rd : RdV w B2 s A2 m c ys)
    (h1 : ∀ u ∈ ys, u.oneCell' = true) (hlen : n + m ≤ maxLen) (hbytes : (n + m) * by_ ≤ 140737488355328) (hB : B ≤ w.heap.size) :
    ∃ A' c' w', (Builtin.append_ #[T, T] ty #[.slice A n cap, .slice A2 m c]).run P w = .ok (.slice A' (n + m) c') w' ∧ OwnV w' B E s A' (n + m) c' (xs ++ ys) ∧ w.grownBy w' (blk A) ∧ (blk A' = blk A ∨ blk A' = some w.heap.size) := by
  obtain ⟨i, hi, hz0, hz1, hz2⟩ := info_parts bt.info
  subst hz1
  subst hz2
  have hsmall : n + m ≤ 9223372036854775807 := by simp only [maxLen] at hlen; omega
  obtain ⟨o1, o2, o3, o4⟩ := id own
  have hxy : (xs ++ ys).length = (n + m) * i.size := by rw [List.length_append, o1, rd.len, Nat.add_mul]
  rcases A2 with _ | ad
  · have hm : m = 0 := by
      rcases Nat.eq_zero_or_pos m with h0 | h0
      · exact h0
      · obtain ⟨_, _, h, _⟩ := rd.cells h0
        cases h
    subst hm
    have hl2 : ys = [] := List.eq_nil_of_length_eq_zero (by simpa using rd.len)
    subst hl2
    have hr : (Builtin.append_ #[T, T] ty #[.slice A n cap, .slice none 0 c]).run P w = .ok (.slice A n cap) w := by
      rcases A with _ | ad
      · simp [Builtin.append_, run_underlying bt.sl, sizeOf, typeInfo, hi, Builtin.lenOf, Builtin.firstCells, o2]
      · simp [Builtin.append_, run_underlying bt.sl, sizeOf, typeInfo, hi, Builtin.lenOf, Builtin.firstCells, o2, storeCells]
    refine ⟨A, cap, w, by simpa using hr, by simpa using own, World.grownBy.refl w _, .inl rfl⟩
  · have hnews := rd.news ad rfl
    have grown : ∀ (old : Nat), old < n + m →
        OwnV (w.drew.alloc (.cells (xs.toArray ++ ys.toArray ++ Builtin.zeroCells z.cells (grownCap w (n + m) old E - (n + m))) E)) B E i.size (some ⟨w.heap.size, 0, none⟩) (n + m) (grownCap w (n + m) old E) (xs ++ ys) ∧
        w.grownBy (w.drew.alloc (.cells (xs.toArray ++ ys.toArray ++ Builtin.zeroCells z.cells (grownCap w (n + m) old E - (n + m))) E)) (blk A) := by
      intro old ho
      have hge := grownCap_ge w (n + m) old E
      have hcm : grownCap w (n + m) old E ≤ maxLen := grownCap_le_maxLen w (n + m) old E hlen
      refine ⟨⟨hxy, hge, hcm, .inr ⟨w.heap.size, _, (0, 0), rfl, hB, heap_alloc_new w.drew _, Loose.zero _, ?_, ?_⟩⟩, ⟨rfl, rfl, rfl, by simp, fun k hk _ => Below.heap_alloc w.drew _ k hk⟩⟩
      · simp only [Array.size_append, List.size_toArray, size_zeroCells, bt.zs, o1, rd.len, ← Nat.add_mul]
        congr 1
        omega
      · simp only [Array.toList_append, List.append_assoc]
        rw [← List.append_assoc, ← hxy]
        exact List.take_left
    rcases o4 with ⟨rfl, hc0⟩ | ⟨g, cur, fz, rfl, hb, hh, hf, hs, ht⟩
    · have hn0 : n = 0 := by omega
      subst hn0
      subst hc0
      have hx : xs = [] := List.eq_nil_of_length_eq_zero (by simpa using o1)
      subst hx
      by_cases hm : m = 0
      · subst hm
        have hn : ys = [] := List.eq_nil_of_length_eq_zero (by simpa using rd.len)
        subst hn
        refine ⟨none, 0, w, ?_, OwnV.nil_ w B E i.size, World.grownBy.refl w _, .inl rfl⟩
        simp [Builtin.append_, run_underlying bt.sl, sizeOf, typeInfo, hi, Builtin.lenOf, Builtin.firstCells, loadCells, loadCellsFrom]
      · have hr := run_append_nil (P := P) w T ty E i z bt.sl hi hz0 ad m c ys rd.len hnews (by omega) (by omega) (by have hb := hbytes; simp only [Nat.zero_add] at hb; omega)
        have hgr := grown 0 (by omega)
        simp only [Nat.zero_add, List.nil_append, Array.empty_append] at hgr ⊢
        exact ⟨_, _, _, hr, hgr.1, hgr.2, .inr rfl⟩
    · by_cases hroom : n + m ≤ cap
      · have hfit : n * i.size + ys.length ≤ cur.size := by rw [rd.len, hs, ← Nat.add_mul]; exact Nat.mul_le_mul_right _ hroom
        have hfc := run_firstCells_some (P := P) w i.size m ad m c ys rd.len hnews
        have hst := run_storeCells_loose P g (n * i.size) E fz ys 0 cur w hh hf (by simpa using hfit) h1
        simp only [Nat.add_zero] at hst
        have hr : (Builtin.append_ #[T, T] ty #[.slice (some ⟨g, 0, none⟩) n cap, .slice (some ad) m c]).run P w =
            .ok (.slice (some ⟨g, 0, none⟩) (n + m) cap) (w.setRow g (cur.toList.take (n * i.size) ++ ys ++ cur.toList.drop (n * i.size + ys.length)).toArray) := by
          simp [Builtin.append_, run_underlying bt.sl, sizeOf, typeInfo, hi, Builtin.lenOf, hroom, hfc, Addr.add_lit, hst]
        refine ⟨_, _, _, hr, ⟨hxy, hroom, o3, .inr ⟨g, _, fz, rfl, hb, setRow_heap w g cur _ E _ hh, ?_, ?_, ?_⟩⟩, ⟨rfl, rfl, rfl, by simp, fun k _ hk => setRow_other w g k _ (fun e => hk (by simp [blk, e]))⟩, .inl rfl⟩
        · have : (cur.toList.take (n * i.size) ++ ys ++ cur.toList.drop (n * i.size + ys.length)).toArray.size = cur.size := by
            simp only [List.size_toArray, List.length_append, List.length_take, List.length_drop, Array.length_toList]
            omega
          rw [this]
          exact hf
        · simp only [List.size_toArray, List.length_append, List.length_take, List.length_drop, Array.length_toList]
          omega
        · rw [ht, ← hxy]
          exact List.take_left
      · have holds : ∀ j u, xs[j]? = some u → w.cell? ((⟨g, 0, none⟩ : Addr).add j) = some u := own.rd.news _ rfl
        have hr := run_append_grow (P := P) w T ty E i z bt.sl hi hz0 ⟨g, 0, none⟩ n cap xs o1 holds ad m c ys rd.len hnews (by omega) (by omega) (growslice_fits (by omega) hbytes)
        have hgr := grown cap (by omega)
        exact ⟨_, _, _, hr, hgr.1, hgr.2, .inr rfl⟩

theorem wp_append_v {o : Oper} {a : Act} {K : Act → World → Prop} {Q : Exit → Act → World → Prop} (st x : Operand) (bt : SlTy P T E z s by_)
    (ho : o.op = .call { callee := .builtin .append, args := #[st, x], argTypes := #[T, T] })
    (B : Nat) (A : Option Addr) (n cap : Nat) (xs : List Value) (hs : a.eval st = .slice A n cap) (own : OwnV w B E s A n cap xs) (A2 : Option Addr) (m c : Nat) (ys : List Value) (hx : a.eval x = .slice A2 m c) {B2 : Nat} (rd : RdV w B2 s A2 m c ys)
    (h1 : ∀ u ∈ ys, u.oneCell' = true) (hlen : n + m ≤ maxLen) (hbytes : (n + m) * by_ ≤ 140737488355328) (hB : B ≤ w.heap.size)
    (h : ∀ A' c' w', OwnV w' B E s A' (n + m) c' (xs ++ ys) → w.grownBy w' (blk A) → (blk A' = blk A ∨ blk A' = some w.heap.size) → K (a.put o.dst (.slice A' (n + m) c')) w') : o.wp P a w K Q := by
  obtain ⟨A', c', w', hr, h2, h3, h4⟩ := run_append_v (P := P) w bt o.type B A n cap xs own A2 m c ys rd h1 hlen hbytes hB
  unfold Oper.wp execOp
  simp only [ho, resolve, invoke, builtin, Sem.run_bind, Sem.run_pure, Result.andThen_ok, List.map_toArray, List.map_cons, List.map_nil, hs, hx, hr]
  exact h A' c' w' h2 h3 h4
theorem wpList_append_v {ops : Array Oper} {rest : List Oper} {o : Oper} {a : Act} {Q : Exit → Act → World → Prop} (hgd : o.guard = none) (st x : Operand) (bt : SlTy P T E z s by_)
    (ho : o.op = .call { callee := .builtin .append, args := #[st, x], argTypes := #[T, T] })
    (B : Nat) (A : Option Addr) (n cap : Nat) (xs : List Value) (hs : a.eval st = .slice A n cap) (own : OwnV w B E s A n cap xs) (A2 : Option Addr) (m c : Nat) (ys : List Value) (hx : a.eval x = .slice A2 m c) {B2 : Nat} (rd : RdV w B2 s A2 m c ys)
    (h1 : ∀ u ∈ ys, u.oneCell' = true) (hlen : n + m ≤ maxLen) (hbytes : (n + m) * by_ ≤ 140737488355328) (hB : B ≤ w.heap.size)
    (h : ∀ A' c' w', OwnV w' B E s A' (n + m) c' (xs ++ ys) → w.grownBy w' (blk A) → (blk A' = blk A ∨ blk A' = some w.heap.size) → wpList P ops Q rest (a.put o.dst (.slice A' (n + m) c')) w') : wpList P ops Q (o :: rest) a w :=
  wpList_plain hgd fun _ hK => wp_append_v w st x bt ho B A n cap xs hs own A2 m c ys hx rd h1 hlen hbytes hB fun A' c' w' h2 h3 h4 => hK _ _ (h A' c' w' h2 h3 h4)
theorem step_append_v {ops : Array Oper} {o : Oper} {a : Act} {K : Act → World → Prop} {Q : Exit → Act → World → Prop} {X : Prop} (hgd : o.guard = none) (st x : Operand) (bt : SlTy P T E z s by_)
    (ho : o.op = .call { callee := .builtin .append, args := #[st, x], argTypes := #[T, T] })
    (B : Nat) (A : Option Addr) (n cap : Nat) (xs : List Value) (hs : a.eval st = .slice A n cap) (own : OwnV w B E s A n cap xs) (A2 : Option Addr) (m c : Nat) (ys : List Value) (hx : a.eval x = .slice A2 m c) {B2 : Nat} (rd : RdV w B2 s A2 m c ys)
    (h1 : ∀ u ∈ ys, u.oneCell' = true) (hlen : n + m ≤ maxLen) (hbytes : (n + m) * by_ ≤ 140737488355328) (hB : B ≤ w.heap.size)
    (h : ∀ A' c' w', OwnV w' B E s A' (n + m) c' (xs ++ ys) → w.grownBy w' (blk A) → (blk A' = blk A ∨ blk A' = some w.heap.size) → K (a.put o.dst (.slice A' (n + m) c')) w') :
    if Region.wanted o (yielded ops a.tmps) = true then Oper.wp P o a w K Q else X := by
  have hw : Region.wanted o (yielded ops a.tmps) = true := by simp [Region.wanted, hgd]
  rw [if_pos hw]
  exact wp_append_v w st x bt ho B A n cap xs hs own A2 m c ys hx rd h1 hlen hbytes hB h
end

/-- Block g is just the cells cs, of type t, none of them frozen. -/
def Blk (w : World) (g : Nat) (t : TypeId) (cs : Array Value) : Prop := w.heap[g]? = some (.cells cs t (0, 0))

section
variable {w w' : World} {g : Nat} {t : TypeId} {cs : Array Value}
theorem Blk.lt (h : Blk w g t cs) : g < w.heap.size := by
  rcases Nat.lt_or_ge g w.heap.size with hlt | hge
  · exact hlt
  · unfold Blk at h; rw [Array.getElem?_eq_none hge] at h; cases h
theorem Blk.cell (h : Blk w g t cs) (i : Nat) : w.cell? ⟨g, i, none⟩ = cs[i]? := cell_of_row w g i cs t (0, 0) h
theorem Blk.frozen (h : Blk w g t cs) (i : Nat) : w.frozen? ⟨g, i, none⟩ = false := by
  unfold Blk at h
  simp [World.frozen?, h]
/-- The facts that a walk uses. -/
theorem Blk.facts (h : Blk w g t cs) : (∀ i, w.cell? ⟨g, i, none⟩ = cs[i]?) ∧ (∀ i, w.frozen? ⟨g, i, none⟩ = false) ∧ g < w.heap.size := ⟨h.cell, h.frozen, h.lt⟩
theorem Blk.new (w : World) (t : TypeId) (cs : Array Value) {H : Nat} (hH : H = w.heap.size) : Blk (w.alloc (.cells cs t)) H t cs := by subst hH; exact heap_alloc_new w _
theorem Blk.drew (h : Blk w g t cs) : Blk w.drew g t cs := h
theorem Blk.drewN (h : Blk w g t cs) (n : Nat) : Blk (w.drewN n) g t cs := h
theorem Blk.alloc (h : Blk w g t cs) (o : Obj) : Blk (w.alloc o) g t cs := (Below.heap_alloc w o g h.lt).trans h
theorem Blk.set_ (h : Blk w g t cs) (i : Nat) (u : Value) : Blk (w.setCell ⟨g, i, none⟩ u) g t (cs.setIfInBounds i u) := by
  unfold Blk at h ⊢
  simp [World.setCell, Array.getElem?_modify, h]
theorem Blk.far (h : Blk w g t cs) {p : Addr} (hp : g ≠ p.block) (u : Value) : Blk (w.setCell p u) g t cs := (Below.heap_setCell w p u g hp).trans h
theorem Blk.below {B : Nat} (h : Blk w g t cs) (hb : Below B w w') (hg : g < B) : Blk w' g t cs := (hb.block g hg).trans h
theorem Blk.ext (h : Blk w g t cs) (hb : Below w.heap.size w w') : Blk w' g t cs := h.below hb h.lt
theorem Blk.grown {row : Option Nat} (h : Blk w g t cs) (hb : w.grownBy w' row) (hg : some g ≠ row) : Blk w' g t cs := (hb.block g h.lt hg).trans h
end
theorem below_of_drew {B : Nat} {a w : World} (h : Below B a.drew w) : Below B a w := ⟨h.os, h.tape, h.output, h.size, h.block⟩
theorem below_of_drewN {B n : Nat} {a w : World} (h : Below B (a.drewN n) w) : Below B a w := ⟨h.os, h.tape, h.output, h.size, h.block⟩
theorem below_drewN {B : Nat} {a w : World} (h : Below B a w) (n : Nat) : Below B a (w.drewN n) := ⟨h.os, h.tape, h.output, h.size, h.block⟩

/-- The conditions under which a drawn region is walked: below block K all is as it was in W. -/
theorem keepS {K : Nat} {W w' : World} (h : Below K W w') : Below K W w' ∧ (∀ b o, b < K → w'.cell? ⟨b, o, none⟩ = W.cell? ⟨b, o, none⟩) := ⟨h, fun b o hb => h.cell (p := ⟨b, o, none⟩) hb⟩
theorem keepS1 {K : Nat} {W w' : World} {b o : Nat} {v : Value} (hb : b < K) (hc : W.cell? ⟨b, o, none⟩ = some v) (h : Below K W w') : Below K W w' ∧ w'.cell? ⟨b, o, none⟩ = some v := ⟨h, (h.cell (p := ⟨b, o, none⟩) hb).trans hc⟩

/-- The world at hand gets a name of its own; what is known of it is F. -/
theorem wp_abs {P : Program} {c : Code} {Q : Exit → Act → World → Prop} {a : Act} {w : World} (F : World → Prop) (hf : F w) (h : ∀ W, F W → c.wp P Q a W) : c.wp P Q a w := h w hf
theorem then_abs {k : Act → World → Prop} {Q : Exit → Act → World → Prop} {e : Exit} {a : Act} {w : World} (F : World → Prop) (hf : F w) (h : ∀ W, F W → Exit.then k Q e a W) : Exit.then k Q e a w := h w hf
theorem list_abs {P : Program} {ops : Array Oper} {l : List Oper} {Q : Exit → Act → World → Prop} {a : Act} {w : World} (F : World → Prop) (hf : F w) (h : ∀ W, F W → wpList P ops Q l a W) : wpList P ops Q l a w := h w hf

/-! Slices, as the walk is to spell them. -/
theorem run_slice_l' {P : Program} {w : World} (t : TypeId) (a : Option Addr) (len cap : Nat) (ht : P.underlying t = some (.slice (P.elem t))) (kl : IntKind) (l : Int) (h0 : 0 ≤ l) (h1 : l ≤ len) :
    (Instr.slice t (.slice a len cap) (some (.int kl l)) none none).run P w = ((sizeOf (P.elem t)).run P w).andThen fun s w => .ok (.slice (cutA a cap l.toNat s) (len - l.toNat) (cap - l.toNat)) w := by
  rw [run_slice_l w t a len cap ht kl l h0 h1]; rfl
theorem run_slice_lh' {P : Program} {w : World} (t : TypeId) (a : Option Addr) (len cap : Nat) (ht : P.underlying t = some (.slice (P.elem t))) (kl kh : IntKind) (l h : Int) (h0 : 0 ≤ l) (h1 : l ≤ h) (h2 : h ≤ cap) :
    (Instr.slice t (.slice a len cap) (some (.int kl l)) (some (.int kh h)) none).run P w = ((sizeOf (P.elem t)).run P w).andThen fun s w => .ok (.slice (cutA a cap l.toNat s) (h.toNat - l.toNat) (cap - l.toNat)) w := by
  rw [run_slice_lh w t a len cap ht kl kh l h h0 h1 h2]; rfl
theorem run_slice_h' {P : Program} {w : World} (t : TypeId) (a : Option Addr) (len cap : Nat) (ht : P.underlying t = some (.slice (P.elem t))) (kh : IntKind) (h : Int) (h0 : 0 ≤ h) (h2 : h ≤ cap) :
    (Instr.slice t (.slice a len cap) none (some (.int kh h)) none).run P w = ((sizeOf (P.elem t)).run P w).andThen fun _ w => .ok (.slice a h.toNat cap) w := by
  rw [run_slice_h w t a len cap ht kh h h0 h2]
  cases (sizeOf (P.elem t)).run P w with
  | halt => rfl
  | ok s w =>
    simp only [Result.andThen, sliced]
    congr 2
    by_cases hc : cap = 0
    · simp [hc]
    · rw [if_neg hc]
      cases a <;> simp [Addr.add]
end Go.Proofs.Ytpmbdppppnbmnaa
