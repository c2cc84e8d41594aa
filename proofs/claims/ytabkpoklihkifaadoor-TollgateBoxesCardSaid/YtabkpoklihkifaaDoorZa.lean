/- What the claim leans on, text Za: Mem, Base, W32, Own, Val, Rep, Pure, Read, Addr, Cut, Num. No condition beyond what each lemma states. -/
import Derived.WalkKit
import Derived.WalkSpells
import Derived.WalkLawsBesides
import Derived.Below
import Derived.Outline
import Derived.Deep.Draws
import Derived.Laws.CopyRow
import Derived.Laws.Append
import Derived.Laws.AppendOwn
import Derived.Lib.ConvBytes
import Derived.Laws.BytesArg
import Derived.ProofKit
import Derived.OwnWalk
import Derived.Laws.BitsAllLaws
import Derived.Laws.BytesString
import Derived.Lib.SlBytesConst
import Derived.ChangeKeysEq

/- Words for memory, over any program: a slice that reads as a row of cells, a slice of the call's own (its cells not frozen), and append between them. No condition beyond what each lemma states. -/
namespace Go.Proofs.YtabkpoklihkifaaDoor
open Go.RowKit
set_option linter.unusedVariables false
set_option linter.unusedSimpArgs false

theorem hid {p : Prop} (h : p) : Hid p := h

/-- The block in which a slice lies. -/
def blk (A : Option Addr) : Option Nat := A.map (·.block)
theorem add_lit (g o j : Nat) : (⟨g, o, none⟩ : Addr).add j = ⟨g, o + j, none⟩ := by unfold Addr.add; split <;> simp_all

/-- Of a row of so many cells none is frozen. -/
def Loose (fz : Nat × Nat) (size : Nat) : Prop := size ≤ fz.1 ∨ fz.2 = fz.1
theorem Loose.zero (size : Nat) : Loose (0, 0) size := .inr rfl
theorem Loose.free {w : World} {g : Nat} {cur : Array Value} {t : TypeId} {fz : Nat × Nat} (hg : w.heap[g]? = some (.cells cur t fz)) (hf : Loose fz cur.size) {i : Nat} (hi : i < cur.size) : w.frozen? ⟨g, i, none⟩ = false := by
  obtain ⟨lo, hi'⟩ := fz
  simp only [World.frozen?, hg, Bool.and_eq_false_iff, decide_eq_false_iff_not]
  rcases hf with h | h
  · left; simp only at h; omega
  · simp only at h; omega

theorem run_storeCells_loose (P : Program) (g o : Nat) (t : TypeId) (fz : Nat × Nat) : ∀ (vs : List Value) (i : Nat) (cur : Array Value) (w : World), w.heap[g]? = some (.cells cur t fz) → Loose fz cur.size → o + i + vs.length ≤ cur.size → (∀ v ∈ vs, v.oneCell' = true) →
    (storeCells ⟨g, o, none⟩ vs i).run P w = .ok () (w.setRow g (cur.toList.take (o + i) ++ vs ++ cur.toList.drop (o + i + vs.length)).toArray)
  | [], i, cur, w, hg, _, _, _ => by
    simp only [storeCells, List.append_nil, List.length_nil, Nat.add_zero, List.take_append_drop, Array.toArray_toList]
    rw [setRow_self w g cur t fz hg]
    rfl
  | v :: rest, i, cur, w, hg, hfz, hl, h1 => by
    have hi : o + i < cur.size := by simp at hl; omega
    have hcell : w.cell? ⟨g, o + i, none⟩ = some cur[o + i] := by simp [World.cell?, hg, hi]
    have hfro : w.frozen? ⟨g, o + i, none⟩ = false := Loose.free hg hfz hi
    have hst : (store ((⟨g, o, none⟩ : Addr).add i) v).run P w = .ok () (w.setRow g (cur.setIfInBounds (o + i) v)) := by
      rw [add_lit, run_store P w _ v _ (h1 v (by simp)), hcell]
      simp [hfro, setCell_eq_setRow w g (o + i) cur t fz v hg]
    have ih := run_storeCells_loose P g o t fz rest (i + 1) (cur.setIfInBounds (o + i) v) (w.setRow g (cur.setIfInBounds (o + i) v)) (setRow_heap w g cur _ t _ hg) (by simpa using hfz) (by simp at hl ⊢; omega) (fun x hx => h1 x (by simp [hx]))
    simp only [storeCells, Sem.run_bind, hst, Result.andThen_ok, ih, setRow_setRow]
    congr 3
    have e := list_seg_step cur.toList (o + i) v rest (by simp at hl ⊢; omega)
    simpa [Array.toList_setIfInBounds, Nat.add_assoc] using e

/-- The address of 's[k:]'. -/
def cutA (A : Option Addr) (cap k size : Nat) : Option Addr := if cap = k then A else A.map (·.add (k * size))

/-- The slice '.slice A n cap', of n elements of s cells each, reads as the cells xs; where it is not empty it lies below block B. -/
structure RdV (w : World) (B s : Nat) (A : Option Addr) (n cap : Nat) (xs : List Value) : Prop where
  len : xs.length = n * s
  le : n ≤ cap
  max : cap ≤ maxLen
  bd : B ≤ w.heap.size
  cells : 0 < n → ∃ b off, A = some ⟨b, off, none⟩ ∧ b < B ∧ ∀ (i : Nat) (u : Value), xs[i]? = some u → w.cell? ⟨b, off + i, none⟩ = some u

section
variable {w w' : World} {B B' s : Nat} {A : Option Addr} {n cap : Nat} {xs : List Value}
theorem RdV.nil_ (w : World) (s : Nat) : RdV w 0 s none 0 0 [] := ⟨by simp, Nat.le_refl _, by simp [maxLen], Nat.zero_le _, fun h => absurd h (by omega)⟩
theorem RdV.keep (h : RdV w B s A n cap xs) (hs : w.heap.size ≤ w'.heap.size) (hk : ∀ g o, g < B → w'.cell? ⟨g, o, none⟩ = w.cell? ⟨g, o, none⟩) : RdV w' B s A n cap xs :=
  ⟨h.len, h.le, h.max, Nat.le_trans h.bd hs, fun hn => by
    obtain ⟨b, off, e, hb, hc⟩ := h.cells hn
    exact ⟨b, off, e, hb, fun i u hu => (hk b _ hb).trans (hc i u hu)⟩⟩
theorem RdV.below (h : RdV w B s A n cap xs) (hb : Below B' w w') (hB : B ≤ B') : RdV w' B s A n cap xs :=
  h.keep hb.size fun g o hg => hb.cell (p := ⟨g, o, none⟩) (by show g < B'; omega)
theorem RdV.ext (h : RdV w B s A n cap xs) (hb : Below w.heap.size w w') : RdV w' B s A n cap xs := h.below hb h.bd
theorem RdV.up (h : RdV w B s A n cap xs) (hB : B ≤ B') (hs : B' ≤ w.heap.size) : RdV w B' s A n cap xs :=
  ⟨h.len, h.le, h.max, hs, fun hn => by
    obtain ⟨b, off, e, hb, hc⟩ := h.cells hn
    exact ⟨b, off, e, by omega, hc⟩⟩
theorem RdV.drew (h : RdV w B s A n cap xs) : RdV w.drew B s A n cap xs := ⟨h.len, h.le, h.max, h.bd, h.cells⟩
theorem RdV.drewN (h : RdV w B s A n cap xs) (k : Nat) : RdV (w.drewN k) B s A n cap xs := ⟨h.len, h.le, h.max, h.bd, h.cells⟩
theorem RdV.alloc (h : RdV w B s A n cap xs) (o : Obj) : RdV (w.alloc o) B s A n cap xs := h.ext ((Below.refl _ _).alloc (Nat.le_refl _) o)
theorem RdV.grown (h : RdV w B s A n cap xs) {row : Option Nat} (hg : w.grownBy w' row) (hne : ∀ g, row = some g → B ≤ g) : RdV w' B s A n cap xs :=
  h.keep hg.size fun g o hlt => World.cell?_of_block (a := ⟨g, o, none⟩) (hg.block g (by have := h.bd; show g < _; omega) (fun e => by have := hne g e.symm; omega))
theorem RdV.setCell (h : RdV w B s A n cap xs) {p : Addr} (hp : B ≤ p.block) (u : Value) : RdV (w.setCell p u) B s A n cap xs :=
  h.below ((Below.refl B w).setCell hp u) (Nat.le_refl _)
/-- The cells, said as append's laws ask for them. -/
theorem RdV.news (h : RdV w B s A n cap xs) (ad : Addr) (hA : A = some ad) : ∀ j u, xs[j]? = some u → w.cell? (ad.add j) = some u := by
  intro j u hu
  have hn : 0 < n := by
    have := (List.getElem?_eq_some_iff.1 hu).1
    rw [h.len] at this
    rcases Nat.eq_zero_or_pos n with h0 | h0
    · subst h0; simp at this
    · exact h0
  obtain ⟨b, off, e, _, hc⟩ := h.cells hn
  rw [hA] at e
  injection e with e
  subst e
  rw [add_lit]
  exact hc j u hu
/-- 's[k:]' as the model cuts it. -/
theorem RdV.cut (h : RdV w B s A n cap xs) {k : Nat} (hk : k ≤ n) : RdV w B s (cutA A cap k s) (n - k) (cap - k) (xs.drop (k * s)) := by
  unfold cutA
  have hle := h.le
  have hmax := h.max
  refine ⟨by rw [List.length_drop, h.len, Nat.sub_mul], by omega, by omega, h.bd, fun hn => ?_⟩
  obtain ⟨b, off, rfl, hb, hc⟩ := h.cells (by omega)
  rw [if_neg (by omega)]
  refine ⟨b, off + k * s, by simp [add_lit], hb, fun i u hu => ?_⟩
  rw [Nat.add_assoc]
  exact hc _ u (by rw [← hu, List.getElem?_drop])
/-- 's[:k]'. -/
theorem RdV.take (h : RdV w B s A n cap xs) {k : Nat} (hk : k ≤ n) : RdV w B s A k cap (xs.take (k * s)) := by
  have hle := h.le
  refine ⟨by rw [List.length_take, h.len]; exact Nat.min_eq_left (Nat.mul_le_mul_right _ hk), by omega, h.max, h.bd, fun hn => ?_⟩
  obtain ⟨b, off, e, hb, hc⟩ := h.cells (by omega)
  refine ⟨b, off, e, hb, fun i u hu => hc i u ?_⟩
  rw [List.getElem?_take] at hu
  split at hu
  · exact hu
  · cases hu
end

/-- The slice '.slice A n cap' owns the cells xs: it is nil, or it begins at the head of a row (numbered from B on), of which no cell is frozen. -/
def OwnV (w : World) (B : Nat) (E : TypeId) (s : Nat) (A : Option Addr) (n cap : Nat) (xs : List Value) : Prop :=
  xs.length = n * s ∧ n ≤ cap ∧ cap ≤ maxLen ∧
  ((A = none ∧ cap = 0) ∨ ∃ g cur fz, A = some ⟨g, 0, none⟩ ∧ B ≤ g ∧ w.heap[g]? = some (.cells cur E fz) ∧ Loose fz cur.size ∧ cur.size = cap * s ∧ cur.toList.take (n * s) = xs)

theorem grownBy_of_below {w w' : World} (hb : Below w.heap.size w w') (row : Option Nat) : w.grownBy w' row := ⟨hb.os, hb.tape, hb.output, hb.size, fun i hi _ => hb.block i hi⟩

theorem grownBy_set {a w : World} {g : Nat} (h : a.grownBy w (some g)) (i : Nat) (u : Value) : a.grownBy (w.setCell ⟨g, i, none⟩ u) (some g) :=
  ⟨h.os, h.tape, h.output, by simpa [World.setCell] using h.size, fun k hk hne => (Below.heap_setCell w ⟨g, i, none⟩ u k (fun e => hne (by rw [e]))).trans (h.block k hk hne)⟩
theorem grownBy_ext {a w w' : World} {row : Option Nat} (h : a.grownBy w row) (hb : Below w.heap.size w w') : a.grownBy w' row :=
  ⟨hb.os.trans h.os, hb.tape.trans h.tape, hb.output.trans h.output, Nat.le_trans h.size hb.size, fun k hk hne => (hb.block k (Nat.lt_of_lt_of_le hk h.size)).trans (h.block k hk hne)⟩

section
variable {w w' : World} {A : Option Addr} {n cap B s : Nat} {E : TypeId} {xs : List Value}
theorem OwnV.nil_ (w : World) (B : Nat) (E : TypeId) (s : Nat) : OwnV w B E s none 0 0 [] := ⟨by simp, Nat.le_refl _, by simp [maxLen], .inl ⟨rfl, rfl⟩⟩
theorem OwnV.len (h : OwnV w B E s A n cap xs) : xs.length = n * s := h.1
theorem OwnV.lt (h : OwnV w B E s A n cap xs) : ∀ g, blk A = some g → B ≤ g ∧ g < w.heap.size := by
  intro g hg
  rcases h.2.2.2 with ⟨rfl, _⟩ | ⟨g', cur, fz, rfl, hb, hh, _⟩
  · simp [blk] at hg
  · simp only [blk, Option.map_some, Option.some.injEq] at hg
    subst hg
    exact ⟨hb, (Array.getElem?_eq_some_iff.1 hh).1⟩
theorem OwnV.rd (h : OwnV w B E s A n cap xs) : RdV w w.heap.size s A n cap xs := by
  obtain ⟨h1, h2, h3, h4⟩ := h
  refine ⟨h1, h2, h3, Nat.le_refl _, fun hn => ?_⟩
  rcases h4 with ⟨_, h0⟩ | ⟨g, cur, fz, rfl, hb, hh, _, hs, ht⟩
  · omega
  · refine ⟨g, 0, rfl, (Array.getElem?_eq_some_iff.1 hh).1, fun i u hu => ?_⟩
    rw [Nat.zero_add, cell_of_row w g i cur E fz hh, ← Array.getElem?_toList]
    rw [← ht, List.getElem?_take] at hu
    split at hu
    · exact hu
    · cases hu
theorem OwnV.kept {row : Option Nat} (h : OwnV w B E s A n cap xs) (hg : w.grownBy w' row) (hne : ∀ g, blk A = some g → some g ≠ row) : OwnV w' B E s A n cap xs := by
  obtain ⟨h1, h2, h3, h4⟩ := h
  refine ⟨h1, h2, h3, ?_⟩
  rcases h4 with h0 | ⟨g, cur, fz, rfl, hb, hh, r⟩
  · exact .inl h0
  · exact .inr ⟨g, cur, fz, rfl, hb, (hg.block g (Array.getElem?_eq_some_iff.1 hh).1 (hne g rfl)).trans hh, r⟩
theorem OwnV.ext (h : OwnV w B E s A n cap xs) (hb : Below w.heap.size w w') : OwnV w' B E s A n cap xs := by
  refine h.kept (grownBy_of_below hb none) ?_
  intro g _
  simp
theorem OwnV.drew (h : OwnV w B E s A n cap xs) : OwnV w.drew B E s A n cap xs := h
theorem OwnV.drewN (h : OwnV w B E s A n cap xs) (k : Nat) : OwnV (w.drewN k) B E s A n cap xs := h
theorem OwnV.alloc (h : OwnV w B E s A n cap xs) (o : Obj) : OwnV (w.alloc o) B E s A n cap xs := h.ext ((Below.refl _ _).alloc (Nat.le_refl _) o)
theorem OwnV.far (h : OwnV w B E s A n cap xs) {p : Addr} (hp : p.block < B) (u : Value) : OwnV (w.setCell p u) B E s A n cap xs := by
  obtain ⟨h1, h2, h3, h4⟩ := h
  refine ⟨h1, h2, h3, ?_⟩
  rcases h4 with h0 | ⟨g, cur, fz, rfl, hb, hh, r⟩
  · exact .inl h0
  · exact .inr ⟨g, cur, fz, rfl, hb, (Below.heap_setCell w p u g (by omega)).trans hh, r⟩
theorem OwnV.lower {B' : Nat} (h : OwnV w B E s A n cap xs) (hB : B' ≤ B) : OwnV w B' E s A n cap xs := by
  obtain ⟨h1, h2, h3, h4⟩ := h
  refine ⟨h1, h2, h3, ?_⟩
  rcases h4 with h0 | ⟨g, cur, fz, rfl, hb, r⟩
  · exact .inl h0
  · exact .inr ⟨g, cur, fz, rfl, by omega, r⟩
/-- A row that was just laid. -/
theorem OwnV.lit (w : World) (hB : B ≤ w.heap.size) (cs : Array Value) (H n : Nat) (hH : H = w.heap.size) (hn : cs.size = n * s) (hm : n ≤ maxLen) :
    OwnV (w.alloc (.cells cs E)) B E s (some ⟨H, 0, none⟩) n n cs.toList := by
  subst hH
  exact ⟨by simpa using hn, Nat.le_refl _, hm, .inr ⟨_, cs, (0, 0), rfl, hB, heap_alloc_new w _, Loose.zero _, hn, List.take_of_length_le (by simp [hn])⟩⟩
/-- What it is where it is not empty. -/
theorem OwnV.some_ (h : OwnV w B E s A n cap xs) (hn : 0 < n) : ∃ g, A = some ⟨g, 0, none⟩ ∧ B ≤ g ∧ g < w.heap.size ∧ (∀ i, i < n * s → w.frozen? ⟨g, i, none⟩ = false) ∧ ∀ i u, xs[i]? = some u → w.cell? ⟨g, i, none⟩ = some u := by
  have hr := h.rd
  obtain ⟨h1, h2, h3, h4⟩ := h
  rcases h4 with ⟨_, h0⟩ | ⟨g, cur, fz, rfl, hb, hh, hf, hs, ht⟩
  · omega
  · refine ⟨g, rfl, hb, (Array.getElem?_eq_some_iff.1 hh).1, fun i hi => Loose.free hh hf ?_, fun i u hu => ?_⟩
    · rw [hs]
      exact Nat.lt_of_lt_of_le hi (Nat.mul_le_mul_right _ h2)
    · have := hr.news ⟨g, 0, none⟩ rfl i u hu
      rwa [add_lit, Nat.zero_add] at this
/-- A store into it. -/
theorem OwnV.stored {g : Nat} (h : OwnV w B E s (some ⟨g, 0, none⟩) n cap xs) (i : Nat) (u : Value) : OwnV (w.setCell ⟨g, i, none⟩ u) B E s (some ⟨g, 0, none⟩) n cap (xs.set i u) := by
  obtain ⟨h1, h2, h3, h4⟩ := h
  refine ⟨by simpa using h1, h2, h3, ?_⟩
  rcases h4 with ⟨h0, _⟩ | ⟨g', cur, fz, he, hb, hh, hf, hs, ht⟩
  · cases h0
  · injection he with he
    injection he with he
    subst he
    refine .inr ⟨g, cur.setIfInBounds i u, fz, rfl, hb, ?_, by simpa using hf, by simpa using hs, ?_⟩
    · rw [setCell_eq_setRow w g i cur E fz u hh]
      exact setRow_heap w g cur _ E fz hh
    · rw [Array.toList_setIfInBounds, ← ht, List.take_set]
/-- 's[:k]' of it. -/
theorem OwnV.take (h : OwnV w B E s A n cap xs) {k : Nat} (hk : k ≤ n) : OwnV w B E s A k cap (xs.take (k * s)) := by
  obtain ⟨h1, h2, h3, h4⟩ := h
  refine ⟨by rw [List.length_take, h1]; exact Nat.min_eq_left (Nat.mul_le_mul_right _ hk), by omega, h3, ?_⟩
  rcases h4 with h0 | ⟨g, cur, fz, rfl, hb, hh, hf, hs, ht⟩
  · exact .inl h0
  · refine .inr ⟨g, cur, fz, rfl, hb, hh, hf, hs, ?_⟩
    rw [← ht, List.take_take, Nat.min_eq_left (Nat.mul_le_mul_right _ hk)]
end

/-- What is known of a slice type T with elements of type E. -/
structure SlTy (P : Program) (T E : TypeId) (z : Value) (s by_ : Nat) : Prop where
  sl : P.underlying T = some (.slice E)
  info : (P.info? E).map (fun i => (i.zero, i.size, i.bytes)) = some (some z, s, by_)
  zs : z.cells.size = s
  pos : 0 < s

section
variable {P : Program} (w : World) {T E : TypeId} {z : Value} {s by_ : Nat}

theorem run_append_v (bt : SlTy P T E z s by_) (ty : TypeId) (B : Nat) (A : Option Addr) (n cap : Nat) (xs : List Value) (own : OwnV w B E s A n cap xs) (A2 : Option Addr) (m c : Nat) (ys : List Value) {B2 : Nat} (rd : RdV w B2 s A2 m c ys)
    (h1 : ∀ u ∈ ys, u.oneCell' = true) (hlen : n + m ≤ maxLen) (hbytes : (n + m) * by_ ≤ 140737488355328) (hB : B ≤ w.heap.size) :
    ∃ A' c' w', (Builtin.append_ #[T, T] ty #[.slice A n cap, .slice A2 m c]).run P w = .ok (.slice A' (n + m) c') w' ∧ OwnV w' B E s A' (n + m) c' (xs ++ ys) ∧ w.grownBy w' (blk A) ∧ (blk A' = blk A ∨ blk A' = some w.heap.size) := by
  obtain ⟨i, hi, hz0, hz1, hz2⟩ := info_parts bt.info
  subst hz1
  subst hz2
  have hsmall : n + m ≤ 9223372036854775807 := by simp only [maxLen] at hlen; omega
  obtain ⟨o1, o2, o3, o4⟩ := id own
  have hxy : (xs ++ ys).length = (n + m) * i.size := by rw [List.length_append, o1, rd.len, Nat.add_mul]
  rcases A2 with _ | ad
  · have hm : m = 0 := by
      rcases Nat.eq_zero_or_pos m with h0 | h0
      · exact h0
      · obtain ⟨_, _, h, _⟩ := rd.cells h0
        cases h
    subst hm
    have hl2 : ys = [] := List.eq_nil_of_length_eq_zero (by simpa using rd.len)
    subst hl2
    have hr : (Builtin.append_ #[T, T] ty #[.slice A n cap, .slice none 0 c]).run P w = .ok (.slice A n cap) w := by
      rcases A with _ | ad
      · simp [Builtin.append_, run_underlying bt.sl, sizeOf, typeInfo, hi, Builtin.lenOf, Builtin.firstCells, o2]
      · simp [Builtin.append_, run_underlying bt.sl, sizeOf, typeInfo, hi, Builtin.lenOf, Builtin.firstCells, o2, storeCells]
    refine ⟨A, cap, w, by simpa using hr, by simpa using own, World.grownBy.refl w _, .inl rfl⟩
  · have hnews := rd.news ad rfl
    have grown : ∀ (old : Nat), old < n + m →
        OwnV (w.drew.alloc (.cells (xs.toArray ++ ys.toArray ++ Builtin.zeroCells z.cells (grownCap w (n + m) old E - (n + m))) E)) B E i.size (some ⟨w.heap.size, 0, none⟩) (n + m) (grownCap w (n + m) old E) (xs ++ ys) ∧
        w.grownBy (w.drew.alloc (.cells (xs.toArray ++ ys.toArray ++ Builtin.zeroCells z.cells (grownCap w (n + m) old E - (n + m))) E)) (blk A) := by
      intro old ho
      have hge := grownCap_ge w (n + m) old E
      have hcm : grownCap w (n + m) old E ≤ maxLen := grownCap_le_maxLen w (n + m) old E hlen
      refine ⟨⟨hxy, hge, hcm, .inr ⟨w.heap.size, _, (0, 0), rfl, hB, heap_alloc_new w.drew _, Loose.zero _, ?_, ?_⟩⟩, ⟨rfl, rfl, rfl, by simp, fun k hk _ => Below.heap_alloc w.drew _ k hk⟩⟩
      · simp only [Array.size_append, List.size_toArray, size_zeroCells, bt.zs, o1, rd.len, ← Nat.add_mul]
        congr 1
        omega
      · simp only [Array.toList_append, List.append_assoc]
        rw [← List.append_assoc, ← hxy]
        exact List.take_left
    rcases o4 with ⟨rfl, hc0⟩ | ⟨g, cur, fz, rfl, hb, hh, hf, hs, ht⟩
    · have hn0 : n = 0 := by omega
      subst hn0
      subst hc0
      have hx : xs = [] := List.eq_nil_of_length_eq_zero (by simpa using o1)
      subst hx
      by_cases hm : m = 0
      · subst hm
        have hn : ys = [] := List.eq_nil_of_length_eq_zero (by simpa using rd.len)
        subst hn
        refine ⟨none, 0, w, ?_, OwnV.nil_ w B E i.size, World.grownBy.refl w _, .inl rfl⟩
        simp [Builtin.append_, run_underlying bt.sl, sizeOf, typeInfo, hi, Builtin.lenOf, Builtin.firstCells, loadCells, loadCellsFrom]
      · have hr := run_append_nil (P := P) w T ty E i z bt.sl hi hz0 ad m c ys rd.len hnews (by omega) (by omega) (by have hb := hbytes; simp only [Nat.zero_add] at hb; omega)
        have hgr := grown 0 (by omega)
        simp only [Nat.zero_add, List.nil_append, Array.empty_append] at hgr ⊢
        exact ⟨_, _, _, hr, hgr.1, hgr.2, .inr rfl⟩
    · by_cases hroom : n + m ≤ cap
      · have hfit : n * i.size + ys.length ≤ cur.size := by rw [rd.len, hs, ← Nat.add_mul]; exact Nat.mul_le_mul_right _ hroom
        have hfc := run_firstCells_some (P := P) w i.size m ad m c ys rd.len hnews
        have hst := run_storeCells_loose P g (n * i.size) E fz ys 0 cur w hh hf (by simpa using hfit) h1
        simp only [Nat.add_zero] at hst
        have hr : (Builtin.append_ #[T, T] ty #[.slice (some ⟨g, 0, none⟩) n cap, .slice (some ad) m c]).run P w =
            .ok (.slice (some ⟨g, 0, none⟩) (n + m) cap) (w.setRow g (cur.toList.take (n * i.size) ++ ys ++ cur.toList.drop (n * i.size + ys.length)).toArray) := by
          simp [Builtin.append_, run_underlying bt.sl, sizeOf, typeInfo, hi, Builtin.lenOf, hroom, hfc, Addr.add_lit, hst]
        refine ⟨_, _, _, hr, ⟨hxy, hroom, o3, .inr ⟨g, _, fz, rfl, hb, setRow_heap w g cur _ E _ hh, ?_, ?_, ?_⟩⟩, ⟨rfl, rfl, rfl, by simp, fun k _ hk => setRow_other w g k _ (fun e => hk (by simp [blk, e]))⟩, .inl rfl⟩
        · have : (cur.toList.take (n * i.size) ++ ys ++ cur.toList.drop (n * i.size + ys.length)).toArray.size = cur.size := by
            simp only [List.size_toArray, List.length_append, List.length_take, List.length_drop, Array.length_toList]
            omega
          rw [this]
          exact hf
        · simp only [List.size_toArray, List.length_append, List.length_take, List.length_drop, Array.length_toList]
          omega
        · rw [ht, ← hxy]
          exact List.take_left
      · have holds : ∀ j u, xs[j]? = some u → w.cell? ((⟨g, 0, none⟩ : Addr).add j) = some u := own.rd.news _ rfl
        have hr := run_append_grow (P := P) w T ty E i z bt.sl hi hz0 ⟨g, 0, none⟩ n cap xs o1 holds ad m c ys rd.len hnews (by omega) (by omega) (growslice_fits (by omega) hbytes)
        have hgr := grown cap (by omega)
        exact ⟨_, _, _, hr, hgr.1, hgr.2, .inr rfl⟩

theorem wp_append_v {o : Oper} {a : Act} {K : Act → World → Prop} {Q : Exit → Act → World → Prop} (st x : Operand) (bt : SlTy P T E z s by_)
    (ho : o.op = .call { callee := .builtin .append, args := #[st, x], argTypes := #[T, T] })
    (B : Nat) (A : Option Addr) (n cap : Nat) (xs : List Value) (hs : a.eval st = .slice A n cap) (own : OwnV w B E s A n cap xs) (A2 : Option Addr) (m c : Nat) (ys : List Value) (hx : a.eval x = .slice A2 m c) {B2 : Nat} (rd : RdV w B2 s A2 m c ys)
    (h1 : ∀ u ∈ ys, u.oneCell' = true) (hlen : n + m ≤ maxLen) (hbytes : (n + m) * by_ ≤ 140737488355328) (hB : B ≤ w.heap.size)
    (h : ∀ A' c' w', OwnV w' B E s A' (n + m) c' (xs ++ ys) → w.grownBy w' (blk A) → (blk A' = blk A ∨ blk A' = some w.heap.size) → K (a.put o.dst (.slice A' (n + m) c')) w') : o.wp P a w K Q := by
  obtain ⟨A', c', w', hr, h2, h3, h4⟩ := run_append_v (P := P) w bt o.type B A n cap xs own A2 m c ys rd h1 hlen hbytes hB
  unfold Oper.wp execOp
  simp only [ho, resolve, invoke, builtin, Sem.run_bind, Sem.run_pure, Result.andThen_ok, List.map_toArray, List.map_cons, List.map_nil, hs, hx, hr]
  exact h A' c' w' h2 h3 h4
theorem wpList_append_v {ops : Array Oper} {rest : List Oper} {o : Oper} {a : Act} {Q : Exit → Act → World → Prop} (hgd : o.guard = none) (st x : Operand) (bt : SlTy P T E z s by_)
    (ho : o.op = .call { callee := .builtin .append, args := #[st, x], argTypes := #[T, T] })
    (B : Nat) (A : Option Addr) (n cap : Nat) (xs : List Value) (hs : a.eval st = .slice A n cap) (own : OwnV w B E s A n cap xs) (A2 : Option Addr) (m c : Nat) (ys : List Value) (hx : a.eval x = .slice A2 m c) {B2 : Nat} (rd : RdV w B2 s A2 m c ys)
    (h1 : ∀ u ∈ ys, u.oneCell' = true) (hlen : n + m ≤ maxLen) (hbytes : (n + m) * by_ ≤ 140737488355328) (hB : B ≤ w.heap.size)
    (h : ∀ A' c' w', OwnV w' B E s A' (n + m) c' (xs ++ ys) → w.grownBy w' (blk A) → (blk A' = blk A ∨ blk A' = some w.heap.size) → wpList P ops Q rest (a.put o.dst (.slice A' (n + m) c')) w') : wpList P ops Q (o :: rest) a w :=
  wpList_plain hgd fun _ hK => wp_append_v w st x bt ho B A n cap xs hs own A2 m c ys hx rd h1 hlen hbytes hB fun A' c' w' h2 h3 h4 => hK _ _ (h A' c' w' h2 h3 h4)
theorem step_append_v {ops : Array Oper} {o : Oper} {a : Act} {K : Act → World → Prop} {Q : Exit → Act → World → Prop} {X : Prop} (hgd : o.guard = none) (st x : Operand) (bt : SlTy P T E z s by_)
    (ho : o.op = .call { callee := .builtin .append, args := #[st, x], argTypes := #[T, T] })
    (B : Nat) (A : Option Addr) (n cap : Nat) (xs : List Value) (hs : a.eval st = .slice A n cap) (own : OwnV w B E s A n cap xs) (A2 : Option Addr) (m c : Nat) (ys : List Value) (hx : a.eval x = .slice A2 m c) {B2 : Nat} (rd : RdV w B2 s A2 m c ys)
    (h1 : ∀ u ∈ ys, u.oneCell' = true) (hlen : n + m ≤ maxLen) (hbytes : (n + m) * by_ ≤ 140737488355328) (hB : B ≤ w.heap.size)
    (h : ∀ A' c' w', OwnV w' B E s A' (n + m) c' (xs ++ ys) → w.grownBy w' (blk A) → (blk A' = blk A ∨ blk A' = some w.heap.size) → K (a.put o.dst (.slice A' (n + m) c')) w') :
    if Region.wanted o (yielded ops a.tmps) = true then Oper.wp P o a w K Q else X := by
  have hw : Region.wanted o (yielded ops a.tmps) = true := by simp [Region.wanted, hgd]
  rw [if_pos hw]
  exact wp_append_v w st x bt ho B A n cap xs hs own A2 m c ys hx rd h1 hlen hbytes hB h
end

/-- Block g is just the cells cs, of type t, none of them frozen. -/
def Blk (w : World) (g : Nat) (t : TypeId) (cs : Array Value) : Prop := w.heap[g]? = some (.cells cs t (0, 0))

section
variable {w w' : World} {g : Nat} {t : TypeId} {cs : Array Value}
theorem Blk.lt (h : Blk w g t cs) : g < w.heap.size := by
  rcases Nat.lt_or_ge g w.heap.size with hlt | hge
  · exact hlt
  · unfold Blk at h; rw [Array.getElem?_eq_none hge] at h; cases h
theorem Blk.cell (h : Blk w g t cs) (i : Nat) : w.cell? ⟨g, i, none⟩ = cs[i]? := cell_of_row w g i cs t (0, 0) h
theorem Blk.frozen (h : Blk w g t cs) (i : Nat) : w.frozen? ⟨g, i, none⟩ = false := by
  unfold Blk at h
  simp [World.frozen?, h]
/-- The facts that a walk uses. -/
theorem Blk.facts (h : Blk w g t cs) : (∀ i, w.cell? ⟨g, i, none⟩ = cs[i]?) ∧ (∀ i, w.frozen? ⟨g, i, none⟩ = false) ∧ g < w.heap.size := ⟨h.cell, h.frozen, h.lt⟩
theorem Blk.new (w : World) (t : TypeId) (cs : Array Value) {H : Nat} (hH : H = w.heap.size) : Blk (w.alloc (.cells cs t)) H t cs := by subst hH; exact heap_alloc_new w _
theorem Blk.drew (h : Blk w g t cs) : Blk w.drew g t cs := h
theorem Blk.drewN (h : Blk w g t cs) (n : Nat) : Blk (w.drewN n) g t cs := h
theorem Blk.alloc (h : Blk w g t cs) (o : Obj) : Blk (w.alloc o) g t cs := (Below.heap_alloc w o g h.lt).trans h
theorem Blk.set_ (h : Blk w g t cs) (i : Nat) (u : Value) : Blk (w.setCell ⟨g, i, none⟩ u) g t (cs.setIfInBounds i u) := by
  unfold Blk at h ⊢
  simp [World.setCell, Array.getElem?_modify, h]
theorem Blk.far (h : Blk w g t cs) {p : Addr} (hp : g ≠ p.block) (u : Value) : Blk (w.setCell p u) g t cs := (Below.heap_setCell w p u g hp).trans h
theorem Blk.below {B : Nat} (h : Blk w g t cs) (hb : Below B w w') (hg : g < B) : Blk w' g t cs := (hb.block g hg).trans h
theorem Blk.ext (h : Blk w g t cs) (hb : Below w.heap.size w w') : Blk w' g t cs := h.below hb h.lt
theorem Blk.grown {row : Option Nat} (h : Blk w g t cs) (hb : w.grownBy w' row) (hg : some g ≠ row) : Blk w' g t cs := (hb.block g h.lt hg).trans h
end
theorem below_of_drew {B : Nat} {a w : World} (h : Below B a.drew w) : Below B a w := ⟨h.os, h.tape, h.output, h.size, h.block⟩
theorem below_of_drewN {B n : Nat} {a w : World} (h : Below B (a.drewN n) w) : Below B a w := ⟨h.os, h.tape, h.output, h.size, h.block⟩
theorem below_drewN {B : Nat} {a w : World} (h : Below B a w) (n : Nat) : Below B a (w.drewN n) := ⟨h.os, h.tape, h.output, h.size, h.block⟩

/-- The conditions under which a drawn region is walked: below block K all is as it was in W. -/
theorem keepS {K : Nat} {W w' : World} (h : Below K W w') : Below K W w' ∧ (∀ b o, b < K → w'.cell? ⟨b, o, none⟩ = W.cell? ⟨b, o, none⟩) := ⟨h, fun b o hb => h.cell (p := ⟨b, o, none⟩) hb⟩
theorem keepS1 {K : Nat} {W w' : World} {b o : Nat} {v : Value} (hb : b < K) (hc : W.cell? ⟨b, o, none⟩ = some v) (h : Below K W w') : Below K W w' ∧ w'.cell? ⟨b, o, none⟩ = some v := ⟨h, (h.cell (p := ⟨b, o, none⟩) hb).trans hc⟩

/-- The world at hand gets a name of its own; what is known of it is F. -/
theorem wp_abs {P : Program} {c : Code} {Q : Exit → Act → World → Prop} {a : Act} {w : World} (F : World → Prop) (hf : F w) (h : ∀ W, F W → c.wp P Q a W) : c.wp P Q a w := h w hf
theorem then_abs {k : Act → World → Prop} {Q : Exit → Act → World → Prop} {e : Exit} {a : Act} {w : World} (F : World → Prop) (hf : F w) (h : ∀ W, F W → Exit.then k Q e a W) : Exit.then k Q e a w := h w hf
theorem list_abs {P : Program} {ops : Array Oper} {l : List Oper} {Q : Exit → Act → World → Prop} {a : Act} {w : World} (F : World → Prop) (hf : F w) (h : ∀ W, F W → wpList P ops Q l a W) : wpList P ops Q l a w := h w hf

/-! Slices, as the walk is to spell them. -/
theorem run_slice_l' {P : Program} {w : World} (t : TypeId) (a : Option Addr) (len cap : Nat) (ht : P.underlying t = some (.slice (P.elem t))) (kl : IntKind) (l : Int) (h0 : 0 ≤ l) (h1 : l ≤ len) :
    (Instr.slice t (.slice a len cap) (some (.int kl l)) none none).run P w = ((sizeOf (P.elem t)).run P w).andThen fun s w => .ok (.slice (cutA a cap l.toNat s) (len - l.toNat) (cap - l.toNat)) w := by
  rw [run_slice_l w t a len cap ht kl l h0 h1]; rfl
theorem run_slice_lh' {P : Program} {w : World} (t : TypeId) (a : Option Addr) (len cap : Nat) (ht : P.underlying t = some (.slice (P.elem t))) (kl kh : IntKind) (l h : Int) (h0 : 0 ≤ l) (h1 : l ≤ h) (h2 : h ≤ cap) :
    (Instr.slice t (.slice a len cap) (some (.int kl l)) (some (.int kh h)) none).run P w = ((sizeOf (P.elem t)).run P w).andThen fun s w => .ok (.slice (cutA a cap l.toNat s) (h.toNat - l.toNat) (cap - l.toNat)) w := by
  rw [run_slice_lh w t a len cap ht kl kh l h h0 h1 h2]; rfl
theorem run_slice_h' {P : Program} {w : World} (t : TypeId) (a : Option Addr) (len cap : Nat) (ht : P.underlying t = some (.slice (P.elem t))) (kh : IntKind) (h : Int) (h0 : 0 ≤ h) (h2 : h ≤ cap) :
    (Instr.slice t (.slice a len cap) none (some (.int kh h)) none).run P w = ((sizeOf (P.elem t)).run P w).andThen fun _ w => .ok (.slice a h.toNat cap) w := by
  rw [run_slice_h w t a len cap ht kh h h0 h2]
  cases (sizeOf (P.elem t)).run P w with
  | halt => rfl
  | ok s w =>
    simp only [Result.andThen, sliced]
    congr 2
    by_cases hc : cap = 0
    · simp [hc]
    · rw [if_neg hc]
      cases a <;> simp [Addr.add]
end Go.Proofs.YtabkpoklihkifaaDoor

/- Words for memory and small laws, over any program: a slice that reads as a list of bytes, a slice of the call's own; append, conversions between bytes and strings. No condition beyond what each lemma states. -/
namespace Go.Proofs.YtabkpoklihkifaaDoor
open Go.RowKit
set_option linter.unusedVariables false

/-- A byte as a value; bytes as values; bytes as a string. -/
def u8 (b : UInt8) : Value := .int .u8 (b.toNat : Int)
def u8s (l : List UInt8) : List Value := l.map u8
def str (l : List UInt8) : ByteArray := ⟨l.toArray⟩
/-- The byte at a place; 0: there is none. -/
def gb (l : List UInt8) (i : Nat) : UInt8 := l.getD i 0
theorem gb_def (l : List UInt8) (i : Nat) : gb l i = l.getD i 0 := rfl
theorem gb_get {l : List UInt8} {i : Nat} {x : UInt8} (h : l[i]? = some x) : gb l i = x := by unfold gb; rw [List.getD_eq_getElem?_getD, h]; rfl
theorem gb_of {l : List UInt8} {i : Nat} (h : i < l.length) : l[i]? = some (gb l i) := by unfold gb; rw [List.getD_eq_getElem?_getD, List.getElem?_eq_getElem h]; rfl
theorem str_toList (s : ByteArray) : str s.data.toList = s := rfl
theorem str_size (l : List UInt8) : (str l).size = l.length := rfl
theorem u8s_length (l : List UInt8) : (u8s l).length = l.length := by simp [u8s]
theorem u8s_one (l : List UInt8) : ∀ u ∈ u8s l, u.oneCell' = true := by
  intro u hu
  simp only [u8s, List.mem_map] at hu
  obtain ⟨b, _, rfl⟩ := hu
  rfl
theorem u8s_append (a b : List UInt8) : u8s (a ++ b) = u8s a ++ u8s b := by simp [u8s]
theorem u8s_get (l : List UInt8) (i : Nat) : (u8s l)[i]? = (l[i]?).map u8 := by simp [u8s]
theorem u8_wf (b : UInt8) : 0 ≤ (b.toNat : Int) ∧ (b.toNat : Int) ≤ 255 := by have := b.toNat_lt; omega
theorem str_inj {a b : List UInt8} : str a = str b ↔ a = b := by
  constructor
  · intro h
    have := congrArg (fun x : ByteArray => x.data.toList) h
    simpa [str] using this
  · rintro rfl; rfl
theorem str_append (a b : List UInt8) : str a ++ str b = str (a ++ b) := by
  apply ByteArray.ext
  simp [str]

theorem str_toL (l : List UInt8) : (str l).toList = l := by
  rw [ByteArray.toList_eq]
  simp [str]
section
variable {P : Program} {w : World}
theorem run_index_str (t : TypeId) (l : List UInt8) (k : IntKind) (i : Int) (h : P.underlying t = some .string) (h0 : 0 ≤ i) (h1 : i < (l.length : Int)) :
    (Instr.index t (.string (str l)) (.int k i)).run P w = .ok (.int .u8 ((gb l i.toNat).toNat : Int)) w := by
  rw [run_index_string w t (str l) k i h, dif_pos ⟨h0, h1⟩]
  congr 4
  rw [gb_def, List.getD_eq_getElem?_getD, List.getElem?_eq_getElem (by omega)]
  rfl
theorem str_extract (l : List UInt8) (i j : Nat) : (str l).extract i j = str ((l.take j).drop i) := by
  apply ByteArray.ext
  rw [ByteArray.data_extract]
  apply Array.ext'
  simp [str, List.drop_take]
theorem run_slice_str_l (t : TypeId) (l : List UInt8) (k : IntKind) (i : Int) (h : P.underlying t = some .string) (h0 : 0 ≤ i) (h1 : i ≤ (l.length : Int)) :
    (Instr.slice t (.string (str l)) (some (.int k i)) none none).run P w = .ok (.string (str (l.drop i.toNat))) w := by
  rw [run_slice_string_from_if w t (str l) k i h, if_pos ⟨h0, h1⟩, str_extract, str_size, List.take_length]
theorem run_slice_str_h (t : TypeId) (l : List UInt8) (k : IntKind) (i : Int) (h : P.underlying t = some .string) (h0 : 0 ≤ i) (h1 : i ≤ (l.length : Int)) :
    (Instr.slice t (.string (str l)) none (some (.int k i)) none).run P w = .ok (.string (str (l.take i.toNat))) w := by
  rw [run_slice_string_to_if w t (str l) k i h, if_pos ⟨h0, h1⟩, str_extract, List.drop_zero]
theorem run_slice_str_lh (t : TypeId) (l : List UInt8) (k k' : IntKind) (i j : Int) (h : P.underlying t = some .string) (h0 : 0 ≤ i) (h1 : i ≤ j) (h2 : j ≤ (l.length : Int)) :
    (Instr.slice t (.string (str l)) (some (.int k i)) (some (.int k' j)) none).run P w = .ok (.string (str ((l.take j.toNat).drop i.toNat))) w := by
  rw [run_slice_string w t (str l) k k' i j h h0 h1 h2, str_extract]
end

/-- A number's byte. -/
def b8 (x : Int) : UInt8 := UInt8.ofNat (x % 256).toNat
theorem u8_b8 {x : Int} (h0 : 0 ≤ x) (h1 : x ≤ 255) : u8 (b8 x) = .int .u8 x := by
  unfold u8 b8
  congr 1
  rw [UInt8.toNat_ofNat']
  omega
theorem u8_wrap (x : Int) : .int .u8 (IntKind.u8.wrap x) = u8 (b8 x) := by
  have h : IntKind.u8.wrap x = x % 256 := by simp [IntKind.wrap, IntKind.signed, IntKind.bits]
  unfold u8 b8
  rw [h]
  congr 1
  rw [UInt8.toNat_ofNat']
  omega
theorem u8_mod (x : Int) : .int .u8 (x % 256) = u8 (b8 x) := by
  rw [← u8_wrap]
  simp [IntKind.wrap, IntKind.signed, IntKind.bits]
theorem u8_x (a b : UInt8) : .int .u8 (bits .xor .u8 (a.toNat : Int) (b.toNat : Int)) = u8 (a ^^^ b) := by
  unfold u8
  rw [u8_xor_nat _ _ a.toNat_lt b.toNat_lt, UInt8.toNat_xor]
theorem b8_toNat {x : Int} (h0 : 0 ≤ x) (h1 : x ≤ 255) : ((b8 x).toNat : Int) = x := by
  unfold b8
  rw [UInt8.toNat_ofNat']
  omega
theorem b8_of (x : UInt8) : b8 (x.toNat : Int) = x := by
  have h := x.toNat_lt
  apply UInt8.toNat_inj.1
  unfold b8
  rw [UInt8.toNat_ofNat']
  omega

theorem w64 {x : Int} (h0 : -4611686018427387904 ≤ x) (h1 : x ≤ 4611686018427387904) : IntKind.i64.wrap x = x := by rw [IntKind.wrap_i64]; omega
/-- Two bytes as a number, the higher first. -/
theorem or16 (a b : Nat) (ha : a ≤ 255) (hb : b ≤ 255) : bits .or .i64 ((a : Int) * 256) (b : Int) = ((a * 256 + b : Nat) : Int) := by
  have h : (a * 256) ||| b = a * 256 + b := by
    have := Nat.shiftLeft_add_eq_or_of_lt (a := a) (b := b) (i := 8) (by omega)
    rw [Nat.shiftLeft_eq] at this
    exact this.symm
  have e : ((a : Int) * 256) = ((a * 256 : Nat) : Int) := by omega
  rw [e]
  show IntKind.i64.wrap ((BitVec.ofInt 64 ((a * 256 : Nat) : Int) ||| BitVec.ofInt 64 (b : Int)).toNat : Int) = _
  rw [BitVec.toNat_or, BitVec.ofInt_natCast, BitVec.ofInt_natCast, BitVec.toNat_ofNat, BitVec.toNat_ofNat, Nat.mod_eq_of_lt (by omega), Nat.mod_eq_of_lt (by omega), h, IntKind.wrap_i64]
  omega

/-- The slice '.slice A n cap' reads as the bytes l; where it is not empty it lies below block B. -/
structure Rd (w : World) (B : Nat) (A : Option Addr) (n cap : Nat) (l : List UInt8) : Prop where
  len : l.length = n
  le : n ≤ cap
  max : cap ≤ maxLen
  bd : B ≤ w.heap.size
  cells : 0 < n → ∃ b off, A = some ⟨b, off, none⟩ ∧ b < B ∧ ∀ i, i < n → w.cell? ⟨b, off + i, none⟩ = some (u8 (gb l i))

section
variable {w w' : World} {B B' : Nat} {A : Option Addr} {n cap : Nat} {l : List UInt8}

theorem Rd.nil_ (w : World) : Rd w 0 none 0 0 [] := ⟨rfl, Nat.le_refl _, by simp [maxLen], Nat.zero_le _, fun h => absurd h (by omega)⟩
theorem Rd.keep (h : Rd w B A n cap l) (hs : w.heap.size ≤ w'.heap.size) (hk : ∀ g o, g < B → w'.cell? ⟨g, o, none⟩ = w.cell? ⟨g, o, none⟩) : Rd w' B A n cap l :=
  ⟨h.len, h.le, h.max, Nat.le_trans h.bd hs, fun hn => by
    obtain ⟨b, off, e, hb, hc⟩ := h.cells hn
    exact ⟨b, off, e, hb, fun i hi => (hk b _ hb).trans (hc i hi)⟩⟩
theorem Rd.below (h : Rd w B A n cap l) (hb : Below B' w w') (hB : B ≤ B') : Rd w' B A n cap l :=
  h.keep hb.size fun g o hg => hb.cell (p := ⟨g, o, none⟩) (by show g < B'; omega)
theorem Rd.ext (h : Rd w B A n cap l) (hb : Below w.heap.size w w') : Rd w' B A n cap l := h.below hb h.bd
theorem Rd.up (h : Rd w B A n cap l) (hB : B ≤ B') (hs : B' ≤ w.heap.size) : Rd w B' A n cap l :=
  ⟨h.len, h.le, h.max, hs, fun hn => by
    obtain ⟨b, off, e, hb, hc⟩ := h.cells hn
    exact ⟨b, off, e, by omega, hc⟩⟩
theorem Rd.drew (h : Rd w B A n cap l) : Rd w.drew B A n cap l := ⟨h.len, h.le, h.max, h.bd, h.cells⟩
theorem Rd.alloc (h : Rd w B A n cap l) (o : Obj) : Rd (w.alloc o) B A n cap l := h.ext ((Below.refl _ _).alloc (Nat.le_refl _) o)
theorem Rd.grown (h : Rd w B A n cap l) {row : Option Nat} (hg : w.grownBy w' row) (hne : ∀ g, row = some g → B ≤ g) : Rd w' B A n cap l :=
  h.keep hg.size fun g o hlt => World.cell?_of_block (a := ⟨g, o, none⟩) (hg.block g (by have := h.bd; show g < _; omega) (fun e => by have := hne g e.symm; omega))
theorem Rd.setCell (h : Rd w B A n cap l) {p : Addr} (hp : B ≤ p.block) (u : Value) : Rd (w.setCell p u) B A n cap l :=
  h.below ((Below.refl B w).setCell hp u) (Nat.le_refl _)
theorem Rd.at_ (h : Rd w B A n cap l) (hn : 0 < n) : ∃ b off, A = some ⟨b, off, none⟩ ∧ b < B ∧ ∀ i, i < n → w.cell? ⟨b, off + i, none⟩ = some (.int .u8 ((gb l i).toNat : Int)) := h.cells hn
/-- The cells, said as append's laws ask for them. -/
theorem Rd.news (h : Rd w B A n cap l) (ad : Addr) (hA : A = some ad) : ∀ j u, (u8s l)[j]? = some u → w.cell? (ad.add j) = some u := by
  intro j u hu
  have hj : j < n := by
    have := (List.getElem?_eq_some_iff.1 hu).1
    rw [u8s_length, h.len] at this
    exact this
  obtain ⟨b, off, e, _, hc⟩ := h.cells (by omega)
  rw [hA] at e
  injection e with e
  subst e
  have hadd : (⟨b, off, none⟩ : Addr).add j = ⟨b, off + j, none⟩ := by unfold Addr.add; split <;> simp_all
  rw [hadd, hc j hj]
  rw [u8s_get] at hu
  have hl : j < l.length := by rw [h.len]; exact hj
  rw [List.getElem?_eq_getElem hl] at hu
  rw [gb_def, List.getD_eq_getElem?_getD, List.getElem?_eq_getElem hl]
  exact hu
/-- One byte. -/
theorem Rd.one {H : Nat} {x : UInt8} (hc : w.cell? ⟨H, 0, none⟩ = some (u8 x)) : Rd w w.heap.size (some ⟨H, 0, none⟩) 1 1 [x] := by
  refine ⟨rfl, Nat.le_refl _, by simp [maxLen], Nat.le_refl _, fun _ => ⟨H, 0, rfl, World.block_lt_of_cell? w _ hc, fun i hi => ?_⟩⟩
  obtain rfl : i = 0 := by omega
  simpa [gb_def] using hc
/-- 's[k:]' as the model cuts it. -/
theorem Rd.cut (h : Rd w B A n cap l) {k : Nat} (hk : k ≤ n) : Rd w B (cutA A cap k 1) (n - k) (cap - k) (l.drop k) := by
  unfold cutA
  rw [Nat.mul_one]
  have hle := h.le
  have hmax := h.max
  refine ⟨by rw [List.length_drop, h.len], by omega, by omega, h.bd, fun hn => ?_⟩
  obtain ⟨b, off, rfl, hb, hc⟩ := h.cells (by omega)
  rw [if_neg (by omega)]
  have hadd : (⟨b, off, none⟩ : Addr).add k = ⟨b, off + k, none⟩ := by unfold Addr.add; split <;> simp_all
  refine ⟨b, off + k, by simp [hadd], hb, fun i hi => ?_⟩
  rw [Nat.add_assoc, hc (k + i) (by omega)]
  simp [gb_def]
/-- 's[:k]'. -/
theorem Rd.take (h : Rd w B A n cap l) {k : Nat} (hk : k ≤ n) : Rd w B A k cap (l.take k) := by
  have hle := h.le
  refine ⟨by rw [List.length_take, h.len]; omega, by omega, h.max, h.bd, fun hn => ?_⟩
  obtain ⟨b, off, e, hb, hc⟩ := h.cells (by omega)
  refine ⟨b, off, e, hb, fun i hi => ?_⟩
  rw [hc i (by omega)]
  congr 2
  simp only [gb_def, List.getD_eq_getElem?_getD, List.getElem?_take, if_pos hi]
/-- 's[j:k]'. -/
theorem Rd.mid (h : Rd w B A n cap l) {j k : Nat} (hj : j ≤ k) (hk : k ≤ n) : Rd w B (cutA A cap j 1) (k - j) (cap - j) ((l.take k).drop j) := (h.take hk).cut hj
end

theorem Rd.drewN {w : World} {B : Nat} {A : Option Addr} {n cap : Nat} {l : List UInt8} (h : Rd w B A n cap l) (k : Nat) : Rd (w.drewN k) B A n cap l := ⟨h.len, h.le, h.max, h.bd, h.cells⟩

/-- What is known of a program's type []byte. -/
structure ByteTy (P : Program) (T E : TypeId) : Prop where
  sl : P.underlying T = some (.slice E)
  el : P.underlying E = some (.int .u8)
  info : (P.info? E).map (fun i => (i.zero, i.size, i.bytes)) = some (some (.int .u8 0), 1, 1)

theorem ByteTy.v {P : Program} {T E : TypeId} (bt : ByteTy P T E) : SlTy P T E (.int .u8 0) 1 1 := ⟨bt.sl, bt.info, rfl, by decide⟩

/-- A slice of bytes of the call's own (its block numbered from B on). -/
def Own (w : World) (B : Nat) (E : TypeId) (A : Option Addr) (n cap : Nat) (l : List UInt8) : Prop := OwnV w B E 1 A n cap (u8s l)

section
variable {w w' : World} {A : Option Addr} {n cap B : Nat} {E : TypeId} {l : List UInt8}
theorem Rd.v (h : Rd w B A n cap l) : RdV w B 1 A n cap (u8s l) := by
  refine ⟨by rw [u8s_length, h.len, Nat.mul_one], h.le, h.max, h.bd, fun hn => ?_⟩
  obtain ⟨b, off, e, hb, hc⟩ := h.cells hn
  refine ⟨b, off, e, hb, fun i u hu => ?_⟩
  rw [u8s_get] at hu
  cases hl : l[i]? with
  | none => rw [hl] at hu; cases hu
  | some x =>
    rw [hl] at hu
    have hi : i < l.length := (List.getElem?_eq_some_iff.1 hl).1
    rw [hc i (by rw [← h.len]; exact hi), ← hu, gb_def, List.getD_eq_getElem?_getD, hl]
    rfl
theorem RdV.rd (h : RdV w B 1 A n cap (u8s l)) : Rd w B A n cap l := by
  have hl : l.length = n := by have := h.len; rwa [u8s_length, Nat.mul_one] at this
  refine ⟨hl, h.le, h.max, h.bd, fun hn => ?_⟩
  obtain ⟨b, off, e, hb, hc⟩ := h.cells hn
  refine ⟨b, off, e, hb, fun i hi => hc i _ ?_⟩
  rw [u8s_get, gb_def, List.getD_eq_getElem?_getD, List.getElem?_eq_getElem (by omega)]
  rfl
theorem Own.nil_ (w : World) (B : Nat) (E : TypeId) : Own w B E none 0 0 [] := OwnV.nil_ w B E 1
theorem Own.len (h : Own w B E A n cap l) : l.length = n := by have := OwnV.len h; rwa [u8s_length, Nat.mul_one] at this
theorem Own.rd (h : Own w B E A n cap l) : Rd w w.heap.size A n cap l := (OwnV.rd h).rd
theorem Own.lt (h : Own w B E A n cap l) : ∀ g, blk A = some g → B ≤ g ∧ g < w.heap.size := OwnV.lt h
theorem Own.kept {row : Option Nat} (h : Own w B E A n cap l) (hg : w.grownBy w' row) (hne : ∀ g, blk A = some g → some g ≠ row) : Own w' B E A n cap l := OwnV.kept h hg hne
theorem Own.ext (h : Own w B E A n cap l) (hb : Below w.heap.size w w') : Own w' B E A n cap l := OwnV.ext h hb
theorem Own.drew (h : Own w B E A n cap l) : Own w.drew B E A n cap l := h
theorem Own.drewN (h : Own w B E A n cap l) (k : Nat) : Own (w.drewN k) B E A n cap l := h
theorem Own.alloc (h : Own w B E A n cap l) (o : Obj) : Own (w.alloc o) B E A n cap l := OwnV.alloc h o
theorem Own.far (h : Own w B E A n cap l) {p : Addr} (hp : p.block < B) (u : Value) : Own (w.setCell p u) B E A n cap l := OwnV.far h hp u
theorem Own.lower {B' : Nat} (h : Own w B E A n cap l) (hB : B' ≤ B) : Own w B' E A n cap l := OwnV.lower h hB
/-- '[]byte{..}', as the walk leaves it. -/
theorem Own.lit (w : World) (hB : B ≤ w.heap.size) (l : List UInt8) (hn : l.length ≤ maxLen) (cs : Array Value) (hcs : cs.toList = u8s l) (H n : Nat) (hH : H = w.heap.size) (hnn : n = l.length) :
    Own (w.alloc (.cells cs E)) B E (some ⟨H, 0, none⟩) n n l := by
  have hsz : cs.size = n * 1 := by rw [← Array.length_toList, hcs, u8s_length, Nat.mul_one, hnn]
  have := OwnV.lit (s := 1) (E := E) w hB cs H n hH hsz (by rw [hnn]; exact hn)
  unfold Own
  rw [← hcs]
  exact this
theorem Own.some_ (h : Own w B E A n cap l) (hn : 0 < n) : ∃ g, A = some ⟨g, 0, none⟩ ∧ B ≤ g ∧ g < w.heap.size ∧ (∀ i, i < n → w.frozen? ⟨g, i, none⟩ = false) ∧ ∀ i, i < n → w.cell? ⟨g, i, none⟩ = some (.int .u8 ((gb l i).toNat : Int)) := by
  have hl := h.len
  obtain ⟨g, hA, hb, hlt, hf, hc⟩ := OwnV.some_ h hn
  refine ⟨g, hA, hb, hlt, fun i hi => hf i (by omega), fun i hi => hc i _ ?_⟩
  rw [u8s_get, gb_def, List.getD_eq_getElem?_getD, List.getElem?_eq_getElem (by omega)]
  rfl
theorem Own.stored {g : Nat} (h : Own w B E (some ⟨g, 0, none⟩) n cap l) (i : Nat) (x : UInt8) : Own (w.setCell ⟨g, i, none⟩ (u8 x)) B E (some ⟨g, 0, none⟩) n cap (l.set i x) := by
  have := OwnV.stored h i (u8 x)
  unfold Own
  have e : u8s (l.set i x) = (u8s l).set i (u8 x) := by simp [u8s, List.map_set]
  rw [e]
  exact this
theorem Own.take (h : Own w B E A n cap l) {k : Nat} (hk : k ≤ n) : Own w B E A k cap (l.take k) := by
  have := OwnV.take h hk
  unfold Own
  rw [Nat.mul_one] at this
  have e : u8s (l.take k) = (u8s l).take k := by simp [u8s, List.map_take]
  rw [e]
  exact this
end

section
variable {P : Program} (w : World) {T E : TypeId}

theorem run_append_bytes (bt : ByteTy P T E) (ty : TypeId) (B : Nat) (A : Option Addr) (n cap : Nat) (l : List UInt8) (own : Own w B E A n cap l) (A2 : Option Addr) (m c : Nat) (l2 : List UInt8) {B2 : Nat} (rd : Rd w B2 A2 m c l2)
    (hlen : n + m ≤ 140737488355328) (hB : B ≤ w.heap.size) :
    ∃ A' c' w', (Builtin.append_ #[T, T] ty #[.slice A n cap, .slice A2 m c]).run P w = .ok (.slice A' (n + m) c') w' ∧ Own w' B E A' (n + m) c' (l ++ l2) ∧ w.grownBy w' (blk A) ∧ (blk A' = blk A ∨ blk A' = some w.heap.size) := by
  obtain ⟨A', c', w', hr, h2, h3, h4⟩ := run_append_v (P := P) w bt.v ty B A n cap (u8s l) own A2 m c (u8s l2) rd.v (u8s_one l2) (by unfold maxLen; omega) (by omega) hB
  refine ⟨A', c', w', hr, ?_, h3, h4⟩
  unfold Own
  rw [u8s_append]
  exact h2

theorem wp_append_bytes {o : Oper} {a : Act} {K : Act → World → Prop} {Q : Exit → Act → World → Prop} (s x : Operand) (bt : ByteTy P T E)
    (ho : o.op = .call { callee := .builtin .append, args := #[s, x], argTypes := #[T, T] })
    (B : Nat) (A : Option Addr) (n cap : Nat) (l : List UInt8) (hs : a.eval s = .slice A n cap) (own : Own w B E A n cap l) (A2 : Option Addr) (m c : Nat) (l2 : List UInt8) (hx : a.eval x = .slice A2 m c) {B2 : Nat} (rd : Rd w B2 A2 m c l2)
    (hlen : n + m ≤ 140737488355328) (hB : B ≤ w.heap.size)
    (h : ∀ A' c' w', Own w' B E A' (n + m) c' (l ++ l2) → w.grownBy w' (blk A) → (blk A' = blk A ∨ blk A' = some w.heap.size) → K (a.put o.dst (.slice A' (n + m) c')) w') : o.wp P a w K Q := by
  obtain ⟨A', c', w', hr, h2, h3, h4⟩ := run_append_bytes (P := P) w bt o.type B A n cap l own A2 m c l2 rd hlen hB
  unfold Oper.wp execOp
  simp only [ho, resolve, invoke, builtin, Sem.run_bind, Sem.run_pure, Result.andThen_ok, List.map_toArray, List.map_cons, List.map_nil, hs, hx, hr]
  exact h A' c' w' h2 h3 h4

theorem wpList_append_bytes {ops : Array Oper} {rest : List Oper} {o : Oper} {a : Act} {Q : Exit → Act → World → Prop} (hgd : o.guard = none) (s x : Operand) (bt : ByteTy P T E)
    (ho : o.op = .call { callee := .builtin .append, args := #[s, x], argTypes := #[T, T] })
    (B : Nat) (A : Option Addr) (n cap : Nat) (l : List UInt8) (hs : a.eval s = .slice A n cap) (own : Own w B E A n cap l) (A2 : Option Addr) (m c : Nat) (l2 : List UInt8) (hx : a.eval x = .slice A2 m c) {B2 : Nat} (rd : Rd w B2 A2 m c l2)
    (hlen : n + m ≤ 140737488355328) (hB : B ≤ w.heap.size)
    (h : ∀ A' c' w', Own w' B E A' (n + m) c' (l ++ l2) → w.grownBy w' (blk A) → (blk A' = blk A ∨ blk A' = some w.heap.size) → wpList P ops Q rest (a.put o.dst (.slice A' (n + m) c')) w') : wpList P ops Q (o :: rest) a w :=
  wpList_plain hgd fun _ hK => wp_append_bytes w s x bt ho B A n cap l hs own A2 m c l2 hx rd hlen hB fun A' c' w' h2 h3 h4 => hK _ _ (h A' c' w' h2 h3 h4)

theorem step_append_bytes {ops : Array Oper} {o : Oper} {a : Act} {K : Act → World → Prop} {Q : Exit → Act → World → Prop} {X : Prop} (hgd : o.guard = none) (s x : Operand) (bt : ByteTy P T E)
    (ho : o.op = .call { callee := .builtin .append, args := #[s, x], argTypes := #[T, T] })
    (B : Nat) (A : Option Addr) (n cap : Nat) (l : List UInt8) (hs : a.eval s = .slice A n cap) (own : Own w B E A n cap l) (A2 : Option Addr) (m c : Nat) (l2 : List UInt8) (hx : a.eval x = .slice A2 m c) {B2 : Nat} (rd : Rd w B2 A2 m c l2)
    (hlen : n + m ≤ 140737488355328) (hB : B ≤ w.heap.size)
    (h : ∀ A' c' w', Own w' B E A' (n + m) c' (l ++ l2) → w.grownBy w' (blk A) → (blk A' = blk A ∨ blk A' = some w.heap.size) → K (a.put o.dst (.slice A' (n + m) c')) w') :
    if Region.wanted o (yielded ops a.tmps) = true then Oper.wp P o a w K Q else X := by
  have hw : Region.wanted o (yielded ops a.tmps) = true := by simp [Region.wanted, hgd]
  rw [if_pos hw]
  exact wp_append_bytes w s x bt ho B A n cap l hs own A2 m c l2 hx rd hlen hB h

/-- 'make([]byte, n)'. -/
theorem make_bytes (bt : ByteTy P T E) (kl kc : IntKind) (N : Int) (n : Nat) (hN : N = (n : Int)) (hn : n ≤ 140737488355328) :
    ∃ w', (Instr.makeSlice T (.int kl N) (.int kc N)).run P w = .ok (.slice (some ⟨w.heap.size, 0, none⟩) n n) w' ∧ Own w' w.heap.size E (some ⟨w.heap.size, 0, none⟩) n n (List.replicate n 0) ∧ Below w.heap.size w w' ∧ w'.heap.size = w.heap.size + 1 := by
  obtain ⟨i, hi, hz0, hz1, hz2⟩ := info_parts bt.info
  subst hN
  have hr := run_make (P := P) w T E i (.int .u8 0) bt.sl hi hz0 kl kc (n : Int) (n : Int) (by omega) (by omega) (by rw [hz2]; omega) (by omega)
  rw [hz1, Int.toNat_natCast, Nat.mul_one] at hr
  refine ⟨_, hr, ?_, (Below.refl _ _).alloc (Nat.le_refl _) _, by simp⟩
  have hl : (madeCells (Value.int IntKind.u8 0).cells n).toList = u8s (List.replicate n 0) := by
    rw [show (Value.int IntKind.u8 0).cells = #[Value.int IntKind.u8 0] from rfl, toList_madeCells_one]
    simp only [u8s, List.map_replicate]
    rfl
  exact Own.lit w (Nat.le_refl _) (List.replicate n 0) (by simp only [List.length_replicate]; unfold maxLen; omega) _ hl _ n rfl (by simp)
theorem wpList_make_bytes {ops : Array Oper} {rest : List Oper} {o : Oper} {a : Act} {Q : Exit → Act → World → Prop} (hgd : o.guard = none) (x y : Operand) (bt : ByteTy P T E) (ho : o.op = .makeSlice T x y)
    (kl kc : IntKind) (N : Int) (n : Nat) (hN : N = (n : Int)) (hn : n ≤ 140737488355328) (hx : a.eval x = .int kl N) (hy : a.eval y = .int kc N)
    (h : ∀ w', Own w' w.heap.size E (some ⟨w.heap.size, 0, none⟩) n n (List.replicate n 0) → Below w.heap.size w w' → w'.heap.size = w.heap.size + 1 → wpList P ops Q rest (a.put o.dst (.slice (some ⟨w.heap.size, 0, none⟩) n n)) w') : wpList P ops Q (o :: rest) a w :=
  wpList_plain hgd fun _ hK => by
    obtain ⟨w', hr, h2, h3, h4⟩ := make_bytes (P := P) w bt kl kc N n hN hn
    unfold Oper.wp execOp
    simp only [ho, Sem.run_bind, hx, hy, hr, Result.andThen_ok, Sem.run_pure]
    exact hK _ _ (h w' h2 h3 h4)
/-- '[]byte(s)'. -/
theorem bytes_of_str (bt : ByteTy P T E) (S : TypeId) (hS : P.underlying S = some .string) (l : List UInt8) (hl : l.length ≤ 140737488355328) :
    ∃ cap w', (convert S T (.string (str l))).run P w = .ok (.slice (some ⟨w.heap.size, 0, none⟩) l.length cap) w' ∧ Own w' w.heap.size E (some ⟨w.heap.size, 0, none⟩) l.length cap l ∧ Below w.heap.size w w' ∧ w'.heap.size = w.heap.size + 1 := by
  refine ⟨_, _, Lib.run_convert_string_bytes w S T E (str l) hS bt.sl bt.el, ?_, ⟨rfl, rfl, rfl, ?_, fun k hk => Lib.bytesWorld_at_old w E (str l) k hk⟩, Lib.bytesWorld_size w E (str l)⟩
  · have hge := grownCap_ge w l.length 0 E
    have hm := grownCap_le_maxLen w l.length 0 E (by unfold maxLen; omega)
    have hsz : (Lib.bytesCells w E (str l)).size = grownCap w l.length 0 E := by
      have e : (str l).size = l.length := rfl
      simp only [Lib.bytesCells, Array.size_append, Array.size_map, Array.size_replicate, e]
      have e2 : (str l).data.size = l.length := rfl
      rw [e2]
      omega
    refine ⟨by rw [u8s_length, Nat.mul_one], hge, hm, .inr ⟨w.heap.size, _, _, rfl, Nat.le_refl _, Lib.bytesWorld_at_new w E (str l), .inl (Nat.le_refl _), by rw [hsz, str_size, Nat.mul_one], ?_⟩⟩
    simp [Lib.bytesCells, str, u8s, u8]
  · rw [Lib.bytesWorld_size]; omega
theorem wpList_bytes_of_str {ops : Array Oper} {rest : List Oper} {o : Oper} {a : Act} {Q : Exit → Act → World → Prop} (hgd : o.guard = none) (x : Operand) (bt : ByteTy P T E) (S : TypeId) (hS : P.underlying S = some .string) (ho : o.op = .convert S T x)
    (l : List UInt8) (hx : a.eval x = .string (str l)) (hl : l.length ≤ 140737488355328)
    (h : ∀ cap w', Own w' w.heap.size E (some ⟨w.heap.size, 0, none⟩) l.length cap l → Below w.heap.size w w' → w'.heap.size = w.heap.size + 1 → wpList P ops Q rest (a.put o.dst (.slice (some ⟨w.heap.size, 0, none⟩) l.length cap)) w') : wpList P ops Q (o :: rest) a w :=
  wpList_plain hgd fun _ hK => by
    obtain ⟨cap, w', hr, h2, h3, h4⟩ := bytes_of_str (P := P) w bt S hS l hl
    unfold Oper.wp execOp
    simp only [ho, Sem.run_bind, hx, hr, Result.andThen_ok, Sem.run_pure]
    exact hK _ _ (h cap w' h2 h3 h4)
/-- '[]byte("..")' of a constant. -/
theorem Rd.const (W : World) (cs : Array Value) (E : TypeId) (fz : Nat × Nat) (l : List UInt8) (hcs : cs.toList = u8s l) (H n : Nat) (hH : H = W.heap.size) (hn : n = l.length) (hm : n ≤ maxLen) :
    Rd (W.alloc (.cells cs E fz)) (W.heap.size + 1) (some ⟨H, 0, none⟩) n n l := by
  subst hH hn
  have hh : (W.alloc (.cells cs E fz)).heap[W.heap.size]? = some (.cells cs E fz) := by show (W.heap.push _)[W.heap.size]? = _; simp
  refine ⟨rfl, Nat.le_refl _, hm, by simp, fun _ => ⟨W.heap.size, 0, rfl, by omega, fun i hi => ?_⟩⟩
  rw [Nat.zero_add, cell_of_row _ _ i cs E fz hh, ← Array.getElem?_toList, hcs, u8s_get, gb_def, List.getD_eq_getElem?_getD, List.getElem?_eq_getElem hi]
  rfl
/-- 'string([]byte{..})': the bytes have just been laid. -/
theorem run_str_lit (bt : ByteTy P T E) (S : TypeId) (hS : P.underlying S = some .string) (l : List UInt8) (cs : Array Value) (hcs : cs.toList = u8s l) (n : Nat) (hn : n = l.length) (W : World) (H : Nat) (hH : H = W.heap.size) :
    (convert T S (.slice (some ⟨H, 0, none⟩) n n)).run P (W.alloc (.cells cs E)) = .ok (.string (str l)) (W.alloc (.cells cs E)) := by
  subst hn hH
  refine run_convert_bytes_back (W.alloc (.cells cs E)) T S E ⟨W.heap.size, 0, none⟩ l.length l bt.sl bt.el hS (fun j hj => ?_)
  have hadd : (⟨W.heap.size, 0, none⟩ : Addr).add j = ⟨W.heap.size, j, none⟩ := by unfold Addr.add; split <;> simp_all
  rw [hadd, World.cell?_alloc_new, ← Array.getElem?_toList, hcs, u8s_get, List.getElem?_eq_getElem hj]
  rfl
/-- 'string(b)'. -/
theorem run_str_of_bytes (bt : ByteTy P T E) (S : TypeId) (hS : P.underlying S = some .string) (A : Option Addr) (n cap : Nat) (l : List UInt8) {B : Nat} (rd : Rd w B A n cap l) :
    (convert T S (.slice A n cap)).run P w = .ok (.string (str l)) w := by
  have hlen := rd.len
  subst hlen
  rcases A with _ | ad
  · have : l = [] := by
      rcases Nat.eq_zero_or_pos l.length with h0 | h0
      · exact List.eq_nil_of_length_eq_zero h0
      · obtain ⟨_, _, h, _⟩ := rd.cells h0
        cases h
    subst this
    exact run_convert_bytes_nil w T E bt.sl bt.el 0 cap S hS
  · exact run_convert_bytes_back w T S E ad cap l bt.sl bt.el hS (fun j hj => by
      have := rd.news ad rfl j (u8 l[j]) (by rw [u8s_get, List.getElem?_eq_getElem hj]; rfl)
      exact this)
end
/-- The condition under which a drawn region is walked that holds a conversion of bytes to a string. -/
theorem keepC {P : Program} {T E S : TypeId} (bt : ByteTy P T E) (hS : P.underlying S = some .string) {K B : Nat} {W w' : World} {A : Option Addr} {n cap : Nat} {l : List UInt8} (rd : Rd W B A n cap l) (hB : B ≤ K) (h : Below K W w') :
    Below K W w' ∧ (∀ b o, b < K → w'.cell? ⟨b, o, none⟩ = W.cell? ⟨b, o, none⟩) ∧ (convert T S (.slice A n cap)).run P w' = .ok (.string (str l)) w' :=
  ⟨h, fun b o hb => h.cell (p := ⟨b, o, none⟩) hb, run_str_of_bytes w' bt S hS A n cap l (rd.below h hB)⟩

/-- An argument of type []byte: what it reads as. -/
theorem arg_bytes {P : Program} {T E : TypeId} (bt : ByteTy P T E) {H : Type} {enc : TypeId × Value → H} {W : World} {base : Nat} {sp : Nat → Bool} {hd : Bool} {A : Option Addr} {n cap : Nat} {d : DataW H} {pl : List MemPlace}
    (h : DataW.Trod enc P W base sp hd T (.slice A n cap) d pl) : ∃ l, Rd W W.heap.size A n cap l := by
  have hone : P.cellsOf E = 1 := by
    obtain ⟨i, hi, _, hz, _⟩ := info_parts bt.info
    simp [Program.cellsOf, hi, hz]
  obtain ⟨fuel, hf⟩ := h
  rcases ChangeShapes.open_ints bt.sl bt.el hone hf with ⟨hcs, _⟩ | ⟨x, l, c, zs, hcs, _, hl, hm, hz, _, hcell, hwz⟩
  · simp [Value.cells] at hcs
    obtain ⟨rfl, rfl, rfl⟩ := hcs
    exact ⟨[], (Rd.nil_ W).up (Nat.zero_le _) (Nat.le_refl _)⟩
  · simp [Value.cells] at hcs
    obtain ⟨rfl, rfl, rfl⟩ := hcs
    have hz' : zs.length = (if sp x.block then cap else n) := hz
    have hnz : n ≤ zs.length := by rw [hz']; split <;> omega
    refine ⟨(zs.take n).map b8, ⟨by rw [List.length_map, List.length_take]; omega, hl, hm, Nat.le_refl _, fun hn => ?_⟩⟩
    obtain ⟨b, off, spot⟩ := x
    have h0 := hcell 0 (by omega)
    have hspot : spot = none := by simpa [Addr.add] using World.cell?_spot h0
    subst hspot
    refine ⟨b, off, rfl, World.block_lt_of_cell? W _ (by rw [add_lit] at h0; exact h0), fun i hi => ?_⟩
    have hc := hcell i (by omega)
    rw [add_lit] at hc
    rw [hc]
    have hi' : i < zs.length := by omega
    have hw := hwz _ (List.getElem_mem hi')
    have hw2 : 0 ≤ zs[i] ∧ zs[i] ≤ 255 := by simpa [Lit.wf, IntKind.min, IntKind.max, IntKind.signed, IntKind.bits] using hw
    have e : gb ((zs.take n).map b8) i = b8 zs[i] := gb_get (by rw [List.getElem?_map, List.getElem?_take, if_pos hi, List.getElem?_eq_getElem hi']; rfl)
    rw [e, u8_b8 hw2.1 hw2.2, List.getD_eq_getElem?_getD, List.getElem?_eq_getElem hi']
    rfl
end Go.Proofs.YtabkpoklihkifaaDoor

/- Words of 32 bits as values, and what the operations on them give, over any program. -/
namespace Go.Proofs.YtabkpoklihkifaaDoor
open Go.RowKit
set_option linter.unusedVariables false
set_option linter.unusedSimpArgs false

def u32v (x : UInt32) : Value := .int .u32 (x.toNat : Int)
def shl32 (x : UInt32) (n : Nat) : UInt32 := UInt32.ofNat (x.toNat <<< n)
def shr32 (x : UInt32) (n : Nat) : UInt32 := UInt32.ofNat (x.toNat >>> n)
theorem u32_lt (x : UInt32) : x.toNat < 4294967296 := x.toNat_lt
theorem wrap_u32 (n : Int) : IntKind.u32.wrap n = n % 4294967296 := by simp [IntKind.wrap, IntKind.bits, IntKind.signed]
theorem ofInt_u32 (a : Nat) (ha : a < 4294967296) : (BitVec.ofInt 32 (a : Int)).toNat = a := by
  rw [BitVec.ofInt_natCast, BitVec.toNat_ofNat]; exact Nat.mod_eq_of_lt (by omega)

theorem bin_add32 (t : TypeId) (a b : UInt32) : binOp .add t (u32v a) (u32v b) = pure (u32v (a + b)) := by
  unfold u32v
  rw [binOp_add]
  simp only [Op.intArith, wrap_u32]
  congr 2
theorem bin_xor32 (t : TypeId) (a b : UInt32) : binOp .xor t (u32v a) (u32v b) = pure (u32v (a ^^^ b)) := by
  have ha := u32_lt a
  have hb := u32_lt b
  unfold u32v
  rw [binOp_xor]
  simp only [Op.intBits, bits]
  congr 2
  show IntKind.u32.wrap ((BitVec.ofInt 32 (a.toNat : Int) ^^^ BitVec.ofInt 32 (b.toNat : Int)).toNat : Int) = _
  have h : (a ^^^ b).toNat < 4294967296 := u32_lt _
  rw [BitVec.toNat_xor, ofInt_u32 _ ha, ofInt_u32 _ hb, wrap_u32, UInt32.toNat_xor] at *
  omega
theorem bin_and32 (t : TypeId) (a b : UInt32) : binOp .and t (u32v a) (u32v b) = pure (u32v (a &&& b)) := by
  have ha := u32_lt a
  have hb := u32_lt b
  unfold u32v
  rw [binOp_and]
  simp only [Op.intBits, bits]
  congr 2
  show IntKind.u32.wrap ((BitVec.ofInt 32 (a.toNat : Int) &&& BitVec.ofInt 32 (b.toNat : Int)).toNat : Int) = _
  have h : (a &&& b).toNat < 4294967296 := u32_lt _
  rw [BitVec.toNat_and, ofInt_u32 _ ha, ofInt_u32 _ hb, wrap_u32, UInt32.toNat_and] at *
  omega
theorem bin_or32 (t : TypeId) (a b : UInt32) : binOp .or t (u32v a) (u32v b) = pure (u32v (a ||| b)) := by
  have ha := u32_lt a
  have hb := u32_lt b
  unfold u32v
  rw [binOp_or]
  simp only [Op.intBits, bits]
  congr 2
  show IntKind.u32.wrap ((BitVec.ofInt 32 (a.toNat : Int) ||| BitVec.ofInt 32 (b.toNat : Int)).toNat : Int) = _
  have h : (a ||| b).toNat < 4294967296 := u32_lt _
  rw [BitVec.toNat_or, ofInt_u32 _ ha, ofInt_u32 _ hb, wrap_u32, UInt32.toNat_or] at *
  omega
theorem bin_shl32 (t : TypeId) (a : UInt32) (k : IntKind) (n : Int) (h : 0 ≤ n) : binOp .shl t (u32v a) (.int k n) = pure (u32v (shl32 a n.toNat)) := by
  unfold u32v
  rw [binOp_shl, shift_shl_any .u32 k _ n h]
  congr 2
  have hb : IntKind.u32.bits = 32 := rfl
  rw [wrap_u32, hb, shl32, UInt32.toNat_ofNat', Nat.shiftLeft_eq]
  have e : ((a.toNat : Int) * 2 ^ min n.toNat 32) = ((a.toNat * 2 ^ min n.toNat 32 : Nat) : Int) := by simp
  rw [e]
  by_cases hn : n.toNat ≤ 32
  · rw [Nat.min_eq_left hn]
    omega
  · rw [Nat.min_eq_right (by omega)]
    have h1 : a.toNat * 2 ^ n.toNat % 2 ^ 32 = 0 := by
      have : (2 : Nat) ^ n.toNat = 2 ^ (n.toNat - 32) * 2 ^ 32 := by rw [← Nat.pow_add]; congr 1; omega
      rw [this, ← Nat.mul_assoc, Nat.mul_mod_left]
    have h2 : a.toNat * 2 ^ 32 % 4294967296 = 0 := by rw [show (2 : Nat) ^ 32 = 4294967296 from rfl, Nat.mul_mod_left]
    rw [h1]
    omega
theorem bin_shr32 (t : TypeId) (a : UInt32) (k : IntKind) (n : Int) (h : 0 ≤ n) : binOp .shr t (u32v a) (.int k n) = pure (u32v (shr32 a n.toNat)) := by
  have ha := u32_lt a
  unfold u32v
  rw [binOp_shr, shift_shr_any .u32 k _ n h]
  congr 2
  have hb : IntKind.u32.bits = 32 := rfl
  rw [hb, shr32, UInt32.toNat_ofNat', Nat.shiftRight_eq_div_pow]
  have hlt : a.toNat / 2 ^ n.toNat < 2 ^ 32 := Nat.lt_of_le_of_lt (Nat.div_le_self _ _) ha
  rw [Nat.mod_eq_of_lt hlt]
  have e : ((a.toNat : Int) / 2 ^ min n.toNat 32) = ((a.toNat / 2 ^ min n.toNat 32 : Nat) : Int) := by simp
  rw [e]
  by_cases hn : n.toNat ≤ 32
  · rw [Nat.min_eq_left hn]
  · rw [Nat.min_eq_right (by omega)]
    have h1 : a.toNat / 2 ^ 32 = 0 := Nat.div_eq_of_lt ha
    have h2 : a.toNat / 2 ^ n.toNat = 0 := Nat.div_eq_of_lt (Nat.lt_of_lt_of_le ha (by rw [show 4294967296 = 2 ^ 32 from rfl]; exact Nat.pow_le_pow_right (by omega) (by omega)))
    rw [h1, h2]
theorem run_u32_of_u8 {P : Program} {w : World} (src dst : TypeId) (b : UInt8) (hs : P.underlying src = some (.int .u8)) (hd : P.underlying dst = some (.int .u32)) : (convert src dst (u8 b)).run P w = .ok (u32v b.toUInt32) w := by
  have hb := b.toNat_lt
  have h2 : IntKind.u32.wrap (b.toNat : Int) = b.toNat := by rw [wrap_u32]; omega
  unfold u8 u32v
  simp [convert, run_underlying hd, run_underlying hs, Conv.intToInt, h2]
theorem run_u8_of_u32 {P : Program} {w : World} (src dst : TypeId) (x : UInt32) (hs : P.underlying src = some (.int .u32)) (hd : P.underlying dst = some (.int .u8)) : (convert src dst (u32v x)).run P w = .ok (u8 x.toUInt8) w := by
  unfold u8 u32v
  simp [convert, run_underlying hd, run_underlying hs, Conv.intToInt, IntKind.wrap_u8]
theorem u32_lit (n : Nat) (h : n < 4294967296) : Value.int .u32 (n : Int) = u32v (UInt32.ofNat n) := by
  unfold u32v
  rw [UInt32.toNat_ofNat', Nat.mod_eq_of_lt (by omega)]
theorem u32v_one (x : UInt32) : (u32v x).oneCell' = true := rfl
theorem u32v_cells (x : UInt32) : (u32v x).cells = #[u32v x] := rfl
theorem run_store_u32 {P : Program} {w : World} (g o : Nat) (x : UInt32) (hc : (w.cell? ⟨g, o, none⟩).isSome = true) (hf : w.frozen? ⟨g, o, none⟩ = false) :
    (storeCells ⟨g, o, none⟩ [u32v x] 0).run P w = .ok () (w.setCell ⟨g, o, none⟩ (u32v x)) := by
  obtain ⟨v, hv⟩ := Option.isSome_iff_exists.1 hc
  simp only [storeCells, Sem.run_bind]
  rw [add_lit, Nat.add_zero, run_store P w _ _ _ (u32v_one x), hv]
  simp [hf]
theorem run_storeVar_u32 {P : Program} {w : World} (t : TypeId) (g o : Nat) (x : UInt32) (ht : (P.info? t).map (·.size) = some 1) (hc : (w.cell? ⟨g, o, none⟩).isSome = true) (hf : w.frozen? ⟨g, o, none⟩ = false) :
    (storeVar t ⟨g, o, none⟩ (u32v x)).run P w = .ok () (w.setCell ⟨g, o, none⟩ (u32v x)) := by
  obtain ⟨i, hi, hs⟩ : ∃ i, P.info? t = some i ∧ i.size = 1 := by
    rcases h : P.info? t with _ | i
    · rw [h] at ht; cases ht
    · rw [h] at ht; exact ⟨i, rfl, by simpa using ht⟩
  have := run_store_u32 (P := P) g o x hc hf
  simp [storeVar, sizeOf, typeInfo, hi, hs, u32v_cells, this]
theorem wpList_build_to {P : Program} {ops : Array Oper} {rest : List Oper} {o : Oper} {a : Act} {w : World} {Q : Exit → Act → World → Prop} (hg : o.guard = none) (t : TypeId) (parts : Array (Nat × Operand)) (ho : o.op = .build t parts) (vs : Array Value)
    (hv : P.built t (parts.map fun (i, x) => (i, a.eval x)).toList = some vs)
    (h : wpList P ops Q rest (a.put o.dst (.agg vs)) w) : wpList P ops Q (o :: rest) a w :=
  wpList_build hg t parts ho (by rw [hv]; rfl) (by rw [hv]; exact h)
theorem below_setRow {B g : Nat} {a w : World} (h : Below B a w) (hg : B ≤ g) (cs : Array Value) : Below B a (w.setRow g cs) :=
  ⟨h.os, h.tape, h.output, by simpa using h.size, fun i hi => (setRow_other w g i _ (by omega)).trans (h.block i hi)⟩
end Go.Proofs.YtabkpoklihkifaaDoor

/- A slice of the call's own that may begin anywhere in its row: append to it, cut it, read it. -/
namespace Go.Proofs.YtabkpoklihkifaaDoor
open Go.RowKit
set_option linter.unusedVariables false
set_option linter.unusedSimpArgs false

/-- The slice '.slice A n cap' owns the cells xs: it is nil, or it lies in a row (numbered from B on) of which no cell is frozen. -/
def OwnO (w : World) (B : Nat) (E : TypeId) (s : Nat) (A : Option Addr) (n cap : Nat) (xs : List Value) : Prop :=
  xs.length = n * s ∧ n ≤ cap ∧ cap ≤ maxLen ∧
  ((A = none ∧ cap = 0) ∨ ∃ g off cur fz, A = some ⟨g, off, none⟩ ∧ B ≤ g ∧ w.heap[g]? = some (.cells cur E fz) ∧ Loose fz cur.size ∧ off + cap * s ≤ cur.size ∧ (cur.toList.drop off).take (n * s) = xs)

section
variable {w w' : World} {A : Option Addr} {n cap B s : Nat} {E : TypeId} {xs : List Value}
theorem OwnV.toO (h : OwnV w B E s A n cap xs) : OwnO w B E s A n cap xs := by
  obtain ⟨h1, h2, h3, h4⟩ := h
  refine ⟨h1, h2, h3, ?_⟩
  rcases h4 with h0 | ⟨g, cur, fz, rfl, hb, hh, hf, hs, ht⟩
  · exact .inl h0
  · exact .inr ⟨g, 0, cur, fz, rfl, hb, hh, hf, by omega, by simpa using ht⟩
theorem OwnO.len (h : OwnO w B E s A n cap xs) : xs.length = n * s := h.1
theorem OwnO.lt (h : OwnO w B E s A n cap xs) : ∀ g, blk A = some g → B ≤ g ∧ g < w.heap.size := by
  intro g hg
  rcases h.2.2.2 with ⟨rfl, _⟩ | ⟨g', off, cur, fz, rfl, hb, hh, _⟩
  · simp [blk] at hg
  · simp only [blk, Option.map_some, Option.some.injEq] at hg
    subst hg
    exact ⟨hb, (Array.getElem?_eq_some_iff.1 hh).1⟩
theorem OwnO.rd (h : OwnO w B E s A n cap xs) : RdV w w.heap.size s A n cap xs := by
  obtain ⟨h1, h2, h3, h4⟩ := h
  refine ⟨h1, h2, h3, Nat.le_refl _, fun hn => ?_⟩
  rcases h4 with ⟨_, h0⟩ | ⟨g, off, cur, fz, rfl, hb, hh, _, hs, ht⟩
  · omega
  · refine ⟨g, off, rfl, (Array.getElem?_eq_some_iff.1 hh).1, fun i u hu => ?_⟩
    rw [cell_of_row w g (off + i) cur E fz hh, ← Array.getElem?_toList]
    rw [← ht, List.getElem?_take] at hu
    split at hu
    · rw [List.getElem?_drop] at hu
      exact hu
    · cases hu
theorem OwnO.kept {row : Option Nat} (h : OwnO w B E s A n cap xs) (hg : w.grownBy w' row) (hne : ∀ g, blk A = some g → some g ≠ row) : OwnO w' B E s A n cap xs := by
  obtain ⟨h1, h2, h3, h4⟩ := h
  refine ⟨h1, h2, h3, ?_⟩
  rcases h4 with h0 | ⟨g, off, cur, fz, rfl, hb, hh, r⟩
  · exact .inl h0
  · exact .inr ⟨g, off, cur, fz, rfl, hb, (hg.block g (Array.getElem?_eq_some_iff.1 hh).1 (hne g rfl)).trans hh, r⟩
/-- Where its block is as it was. -/
theorem OwnO.same (h : OwnO w B E s A n cap xs) (hg : ∀ g, blk A = some g → w'.heap[g]? = w.heap[g]?) : OwnO w' B E s A n cap xs := by
  obtain ⟨h1, h2, h3, h4⟩ := h
  refine ⟨h1, h2, h3, ?_⟩
  rcases h4 with h0 | ⟨g, off, cur, fz, rfl, hb, hh, r⟩
  · exact .inl h0
  · exact .inr ⟨g, off, cur, fz, rfl, hb, (hg g rfl).trans hh, r⟩
theorem OwnO.ext (h : OwnO w B E s A n cap xs) (hb : Below w.heap.size w w') : OwnO w' B E s A n cap xs :=
  h.same fun g hg => hb.block g (h.lt g hg).2
theorem OwnO.far (h : OwnO w B E s A n cap xs) {p : Addr} (hp : ∀ g, blk A = some g → g ≠ p.block) (u : Value) : OwnO (w.setCell p u) B E s A n cap xs :=
  h.same fun g hg => Below.heap_setCell w p u g (hp g hg)
theorem OwnO.lower {B' : Nat} (h : OwnO w B E s A n cap xs) (hB : B' ≤ B) : OwnO w B' E s A n cap xs := by
  obtain ⟨h1, h2, h3, h4⟩ := h
  refine ⟨h1, h2, h3, ?_⟩
  rcases h4 with h0 | ⟨g, off, cur, fz, rfl, hb, r⟩
  · exact .inl h0
  · exact .inr ⟨g, off, cur, fz, rfl, by omega, r⟩
theorem OwnO.drew (h : OwnO w B E s A n cap xs) : OwnO w.drew B E s A n cap xs := h
theorem OwnO.drewN (h : OwnO w B E s A n cap xs) (k : Nat) : OwnO (w.drewN k) B E s A n cap xs := h
/-- 's[k:]' of it. -/
theorem OwnO.cut (h : OwnO w B E s A n cap xs) {k : Nat} (hk : k ≤ n) : OwnO w B E s (cutA A cap k s) (n - k) (cap - k) (xs.drop (k * s)) := by
  obtain ⟨h1, h2, h3, h4⟩ := h
  unfold cutA
  refine ⟨by rw [List.length_drop, h1, Nat.sub_mul], by omega, by omega, ?_⟩
  rcases h4 with ⟨rfl, h0⟩ | ⟨g, off, cur, fz, rfl, hb, hh, hf, hs, ht⟩
  · exact .inl ⟨by split <;> rfl, by omega⟩
  · right
    by_cases hc : cap = k
    · rw [if_pos hc]
      refine ⟨g, off, cur, fz, rfl, hb, hh, hf, ?_, ?_⟩
      · have : (cap - k) * s = 0 := by rw [hc, Nat.sub_self, Nat.zero_mul]
        omega
      · have hn : n - k = 0 := by omega
        rw [hn, Nat.zero_mul, List.take_zero]
        symm
        apply List.drop_of_length_le
        rw [h1]
        exact Nat.mul_le_mul_right _ (by omega)
    · rw [if_neg hc]
      refine ⟨g, off + k * s, cur, fz, by simp [add_lit], hb, hh, hf, ?_, ?_⟩
      · have : (cap - k) * s + k * s = cap * s := by rw [← Nat.add_mul]; congr 1; omega
        omega
      · rw [← ht, List.drop_take, List.drop_drop, Nat.sub_mul]
end

section
variable {P : Program} (w : World) {T E : TypeId} {z : Value} {s by_ : Nat}

theorem run_append_o (bt : SlTy P T E z s by_) (ty : TypeId) (B : Nat) (A : Option Addr) (n cap : Nat) (xs : List Value) (own : OwnO w B E s A n cap xs) (A2 : Option Addr) (m c : Nat) (ys : List Value) {B2 : Nat} (rd : RdV w B2 s A2 m c ys)
    (h1 : ∀ u ∈ ys, u.oneCell' = true) (hlen : n + m ≤ maxLen) (hbytes : (n + m) * by_ ≤ 140737488355328) (hB : B ≤ w.heap.size) :
    ∃ A' c' w', (Builtin.append_ #[T, T] ty #[.slice A n cap, .slice A2 m c]).run P w = .ok (.slice A' (n + m) c') w' ∧ OwnO w' B E s A' (n + m) c' (xs ++ ys) ∧ w.grownBy w' (blk A) ∧ (blk A' = blk A ∨ blk A' = some w.heap.size) := by
  obtain ⟨i, hi, hz0, hz1, hz2⟩ := info_parts bt.info
  subst hz1
  subst hz2
  have hsmall : n + m ≤ 9223372036854775807 := by simp only [maxLen] at hlen; omega
  obtain ⟨o1, o2, o3, o4⟩ := id own
  have hxy : (xs ++ ys).length = (n + m) * i.size := by rw [List.length_append, o1, rd.len, Nat.add_mul]
  rcases o4 with ⟨rfl, hc0⟩ | ⟨g, off, cur, fz, rfl, hb, hh, hf, hs, ht⟩
  · have hn0 : n = 0 := by omega
    subst hn0
    subst hc0
    have hx : xs = [] := List.eq_nil_of_length_eq_zero (by simpa using o1)
    subst hx
    obtain ⟨A', c', w', r1, r2, r3, r4⟩ := run_append_v (P := P) w bt ty B none 0 0 [] (OwnV.nil_ w B E i.size) A2 m c ys rd h1 hlen hbytes hB
    exact ⟨A', c', w', r1, r2.toO, r3, r4⟩
  · rcases A2 with _ | ad
    · have hm : m = 0 := by
        rcases Nat.eq_zero_or_pos m with h0 | h0
        · exact h0
        · obtain ⟨_, _, h, _⟩ := rd.cells h0
          cases h
      subst hm
      have hl2 : ys = [] := List.eq_nil_of_length_eq_zero (by simpa using rd.len)
      subst hl2
      refine ⟨some ⟨g, off, none⟩, cap, w, ?_, by simpa using own, World.grownBy.refl w _, .inl rfl⟩
      simp [Builtin.append_, run_underlying bt.sl, sizeOf, typeInfo, hi, Builtin.lenOf, Builtin.firstCells, o2, storeCells]
    · have hnews := rd.news ad rfl
      by_cases hroom : n + m ≤ cap
      · have hfit0 : n * i.size + ys.length ≤ cap * i.size := by rw [rd.len, ← Nat.add_mul]; exact Nat.mul_le_mul_right _ hroom
        have hfit : off + n * i.size + ys.length ≤ cur.size := by omega
        have hfc := run_firstCells_some (P := P) w i.size m ad m c ys rd.len hnews
        have hst := run_storeCells_loose P g (off + n * i.size) E fz ys 0 cur w hh hf (by simpa using hfit) h1
        simp only [Nat.add_zero] at hst
        have hr : (Builtin.append_ #[T, T] ty #[.slice (some ⟨g, off, none⟩) n cap, .slice (some ad) m c]).run P w =
            .ok (.slice (some ⟨g, off, none⟩) (n + m) cap) (w.setRow g (cur.toList.take (off + n * i.size) ++ ys ++ cur.toList.drop (off + n * i.size + ys.length)).toArray) := by
          simp [Builtin.append_, run_underlying bt.sl, sizeOf, typeInfo, hi, Builtin.lenOf, hroom, hfc, Addr.add_lit, hst]
        have hsz : (cur.toList.take (off + n * i.size) ++ ys ++ cur.toList.drop (off + n * i.size + ys.length)).toArray.size = cur.size := by
          simp only [List.size_toArray, List.length_append, List.length_take, List.length_drop, Array.length_toList]
          omega
        refine ⟨_, _, _, hr, ⟨hxy, hroom, o3, .inr ⟨g, off, _, fz, rfl, hb, setRow_heap w g cur _ E _ hh, by rw [hsz]; exact hf, by rw [hsz]; exact hs, ?_⟩⟩, ⟨rfl, rfl, rfl, by simp, fun k _ hk => setRow_other w g k _ (fun e => hk (by simp [blk, e]))⟩, .inl rfl⟩
        have hd : (cur.toList.take (off + n * i.size)).drop off = xs := by
          rw [List.drop_take, ← ht]
          congr 1
          omega
        have hlt : off ≤ (cur.toList.take (off + n * i.size)).length := by
          simp only [List.length_take, Array.length_toList]
          omega
        show List.take ((n + m) * i.size) (List.drop off (cur.toList.take (off + n * i.size) ++ ys ++ cur.toList.drop (off + n * i.size + ys.length))) = xs ++ ys
        rw [List.append_assoc, List.drop_append_of_le_length hlt, hd, ← List.append_assoc, ← hxy]
        exact List.take_left
      · have holds : ∀ j u, xs[j]? = some u → w.cell? ((⟨g, off, none⟩ : Addr).add j) = some u := own.rd.news _ rfl
        have hr := run_append_grow (P := P) w T ty E i z bt.sl hi hz0 ⟨g, off, none⟩ n cap xs o1 holds ad m c ys rd.len hnews (by omega) (by omega) (growslice_fits (by omega) hbytes)
        have hge := grownCap_ge w (n + m) cap E
        have hcm : grownCap w (n + m) cap E ≤ maxLen := grownCap_le_maxLen w (n + m) cap E hlen
        refine ⟨_, _, _, hr, ⟨hxy, hge, hcm, .inr ⟨w.heap.size, 0, _, (0, 0), rfl, hB, heap_alloc_new w.drew _, Loose.zero _, ?_, ?_⟩⟩, ⟨rfl, rfl, rfl, by simp, fun k hk _ => Below.heap_alloc w.drew _ k hk⟩, .inr rfl⟩
        · simp only [Array.size_append, List.size_toArray, size_zeroCells, bt.zs, o1, rd.len, ← Nat.add_mul, Nat.zero_add]
          apply Nat.mul_le_mul_right
          omega
        · simp only [Array.toList_append, List.append_assoc, List.drop_zero]
          rw [← List.append_assoc, ← hxy]
          exact List.take_left

theorem wpList_append_o {ops : Array Oper} {rest : List Oper} {o : Oper} {a : Act} {Q : Exit → Act → World → Prop} (hgd : o.guard = none) (st x : Operand) (bt : SlTy P T E z s by_)
    (ho : o.op = .call { callee := .builtin .append, args := #[st, x], argTypes := #[T, T] })
    (B : Nat) (A : Option Addr) (n cap : Nat) (xs : List Value) (hs : a.eval st = .slice A n cap) (own : OwnO w B E s A n cap xs) (A2 : Option Addr) (m c : Nat) (ys : List Value) (hx : a.eval x = .slice A2 m c) {B2 : Nat} (rd : RdV w B2 s A2 m c ys)
    (h1 : ∀ u ∈ ys, u.oneCell' = true) (hlen : n + m ≤ maxLen) (hbytes : (n + m) * by_ ≤ 140737488355328) (hB : B ≤ w.heap.size)
    (h : ∀ A' c' w', OwnO w' B E s A' (n + m) c' (xs ++ ys) → w.grownBy w' (blk A) → (blk A' = blk A ∨ blk A' = some w.heap.size) → wpList P ops Q rest (a.put o.dst (.slice A' (n + m) c')) w') : wpList P ops Q (o :: rest) a w :=
  wpList_plain hgd fun _ hK => by
    obtain ⟨A', c', w', hr, h2, h3, h4⟩ := run_append_o (P := P) w bt o.type B A n cap xs own A2 m c ys rd h1 hlen hbytes hB
    unfold Oper.wp execOp
    simp only [ho, resolve, invoke, builtin, Sem.run_bind, Sem.run_pure, Result.andThen_ok, List.map_toArray, List.map_cons, List.map_nil, hs, hx, hr]
    exact hK _ _ (h A' c' w' h2 h3 h4)
end
end Go.Proofs.YtabkpoklihkifaaDoor

/- The abstract values of a call: what a value of the model reads as, in a world of which some blocks are read only (S) and others are the call's own (F: the blocks that the value owns). Over any program. -/
namespace Go.Proofs.YtabkpoklihkifaaDoor
open Go Go.RowKit
set_option linter.unusedVariables false
set_option linter.unusedSimpArgs false

/-- What is known of a value. -/
inductive D where
  | bot
  | bool (b : Bool)
  | int (k : IntKind) (n : Int)
  | u8 (x : UInt8)
  | u32 (x : UInt32)
  | str (l : List UInt8)
  | nilP
  | nilS
  | nilF
  | fn (f : Nat)
  /-- the address of cell off of object o (of its g-th making) -/
  | ptr (o g off : Nat)
  /-- len elements of object o, from cell off on -/
  | sl (o g off len : Nat)
  /-- a slice of bytes in read-only memory -/
  | rob (l : List UInt8)
  /-- a slice of n elements of s cells each in read-only memory -/
  | ros (s n : Nat) (cs : List D)
  /-- the address of cell off of read-only memory that reads as cs -/
  | rop (off : Nat) (cs : List D)
  /-- a slice of n elements of s cells each in read-only memory, cell j of element i being f i j -/
  | rof (s n : Nat) (f : Nat → Nat → D)
  /-- the address of cell j of element k of such memory -/
  | rpf (k j s n : Nat) (f : Nat → Nat → D)
  /-- the address of byte k of read-only bytes -/
  | rpb (k : Nat) (l : List UInt8)
  /-- a slice of n elements, of which nothing is known -/
  | lsl (n : Nat)
  | aggb (l : List UInt8)
  | agg (cs : List D)
  | tup (cs : List D)
  /-- known where c is true -/
  | iff (c : Bool) (d : D)
  /-- a function value that hands out the pieces of n bytes of l -/
  | chunk (f : Nat) (l : List UInt8) (n : Nat)
  /-- a function value that hands out the pieces of n elements of len elements of object o, from cell off on -/
  | chunko (f o g off len n : Nat)
  /-- a slice that owns its row -/
  | ownb (l : List UInt8)
  | owns (s n : Nat) (cs : List D)
  /-- an address that owns its block -/
  | ownp (cs : List D)
  deriving Inhabited

/-- A value of one cell that names no object and owns nothing. -/
def D.pf0 : D → Bool
  | .bool _ | .int _ _ | .u8 _ | .u32 _ | .str _ | .nilP | .nilS | .nilF | .fn _ | .rob _ | .chunk _ _ _ | .rof _ _ _ | .rpf _ _ _ _ _ | .rpb _ _ | .lsl _ => true
  | _ => false

/-- Where an object lies; its making, the cells of its elements, and how many cells it holds. -/
structure Pl where
  blk : Nat
  base : Nat
  size : Nat
structure Sh where
  gen : Nat
  esz : Nat
  clen : Nat

/-- The slice '.slice A n cap' reads as the bytes l; where it is not empty it lies in a block of S. -/
structure RdS (w : World) (S : Nat → Prop) (A : Option Addr) (n cap : Nat) (l : List UInt8) : Prop where
  len : l.length = n
  le : n ≤ cap
  max : cap ≤ maxLen
  cells : 0 < n → ∃ b off, A = some ⟨b, off, none⟩ ∧ S b ∧ ∀ i, i < n → w.cell? ⟨b, off + i, none⟩ = some (u8 (gb l i))

theorem RdS.rd {w : World} {S : Nat → Prop} {A : Option Addr} {n cap : Nat} {l : List UInt8} (h : RdS w S A n cap l) (hS : ∀ b, S b → b < w.heap.size) : Rd w w.heap.size A n cap l :=
  ⟨h.len, h.le, h.max, Nat.le_refl _, fun hn => by
    obtain ⟨b, off, e, hb, hc⟩ := h.cells hn
    exact ⟨b, off, e, hS b hb, hc⟩⟩
theorem RdS.mono {w w' : World} {S S' : Nat → Prop} {A : Option Addr} {n cap : Nat} {l : List UInt8} (h : RdS w S A n cap l) (hS : ∀ b, S b → S' b) (hw : ∀ b, S b → w'.heap[b]? = w.heap[b]?) : RdS w' S' A n cap l :=
  ⟨h.len, h.le, h.max, fun hn => by
    obtain ⟨b, off, e, hb, hc⟩ := h.cells hn
    exact ⟨b, off, e, hS b hb, fun i hi => (World.cell?_of_block (a := ⟨b, off + i, none⟩) (hw b hb)).trans (hc i hi)⟩⟩

/-- A slice into an object. -/
def SlAt (p : Pl) (h : Sh) (off len : Nat) (v : Value) : Prop :=
  ∃ A cap, v = .slice A len cap ∧ len ≤ cap ∧ cap ≤ maxLen ∧ off + len * h.esz ≤ h.clen ∧ ((len = 0 ∧ cap = 0) ∨ (A = some ⟨p.blk, p.base + off, none⟩ ∧ p.base + off + cap * h.esz ≤ p.size))

/-- A row of its own, from which a slice of cells xs is cut. -/
def RowAt (w : World) (A : Option Addr) (n cap s : Nat) (F : List Nat) (cur : Array Value) (off : Nat) : Prop :=
  n ≤ cap ∧ cap ≤ maxLen ∧ ((n = 0 ∧ cap = 0 ∧ F = []) ∨ ∃ b E fz, F = [b] ∧ A = some ⟨b, off, none⟩ ∧ w.heap[b]? = some (.cells cur E fz) ∧ Loose fz cur.size ∧ off + cap * s ≤ cur.size)

/-- An address, not nil. -/
def isPt : Value → Bool
  | .pointer (some _) => true
  | _ => false
theorem isPt_ex {v : Value} (h : isPt v = true) : ∃ q, v = .pointer (some q) := by
  unfold isPt at h
  split at h
  · exact ⟨_, rfl⟩
  · cases h
theorem isPt_one {v : Value} (h : isPt v = true) : v.oneCell' = true := by
  obtain ⟨q, rfl⟩ := isPt_ex h
  rfl
inductive RV (w : World) (S : Nat → Prop) (ρ : Nat → Pl) (H : Nat → Sh) : D → Value → List Nat → Prop
  | bot (v : Value) : RV w S ρ H .bot v []
  | bool (b : Bool) : RV w S ρ H (.bool b) (.bool b) []
  | int (k : IntKind) (n : Int) : RV w S ρ H (.int k n) (.int k n) []
  | u8 (x : UInt8) : RV w S ρ H (.u8 x) (Proofs.YtabkpoklihkifaaDoor.u8 x) []
  | u32 (x : UInt32) : RV w S ρ H (.u32 x) (u32v x) []
  | str (l : List UInt8) : RV w S ρ H (.str l) (.string (Proofs.YtabkpoklihkifaaDoor.str l)) []
  | nilP : RV w S ρ H .nilP (.pointer none) []
  | nilS : RV w S ρ H .nilS (.slice none 0 0) []
  | nilF : RV w S ρ H .nilF .nilFunc []
  | fn (f : Nat) : RV w S ρ H (.fn f) (.func (.func f) #[] #[]) []
  | ptr (o g off : Nat) (v : Value) (h1 : isPt v = true) (hg : g ≤ (H o).gen) (h : g = (H o).gen → v = .pointer (some ⟨(ρ o).blk, (ρ o).base + off, none⟩)) : RV w S ρ H (.ptr o g off) v []
  | sl (o g off len : Nat) (v : Value) (h1 : v.oneCell' = true) (hg : g ≤ (H o).gen) (h : g = (H o).gen → SlAt (ρ o) (H o) off len v) : RV w S ρ H (.sl o g off len) v []
  | rob (l : List UInt8) (A : Option Addr) (n cap : Nat) (h : RdS w S A n cap l) : RV w S ρ H (.rob l) (.slice A n cap) []
  | ros (s n : Nat) (cs : List D) (A : Option Addr) (cap b off : Nat) (us : Nat → Value) (hl : cs.length = n * s) (hn : n ≤ cap) (hm : cap ≤ maxLen) (hA : 0 < n → A = some ⟨b, off, none⟩ ∧ S b)
      (hc : 0 < n → ∀ (i : Nat) (c : D), cs[i]? = some c → w.cell? ⟨b, off + i, none⟩ = some (us i)) (hr : ∀ (i : Nat) (c : D), cs[i]? = some c → RV w S ρ H c (us i) []) : RV w S ρ H (.ros s n cs) (.slice A n cap) []
  | rop (off : Nat) (cs : List D) (b base : Nat) (us : Nat → Value) (hb : S b)
      (hc : ∀ (i : Nat) (c : D), cs[i]? = some c → w.cell? ⟨b, base + i, none⟩ = some (us i)) (hr : ∀ (i : Nat) (c : D), cs[i]? = some c → RV w S ρ H c (us i) []) : RV w S ρ H (.rop off cs) (.pointer (some ⟨b, base + off, none⟩)) []
  | rof (s n : Nat) (f : Nat → Nat → D) (A : Option Addr) (cap b off : Nat) (us : Nat → Nat → Value) (hn : n ≤ cap) (hm : cap ≤ maxLen) (hp : ∀ i j, i < n → j < s → (f i j).pf0 = true) (hA : 0 < n → A = some ⟨b, off, none⟩ ∧ S b)
      (hc : ∀ i j, i < n → j < s → w.cell? ⟨b, off + (i * s + j), none⟩ = some (us i j)) (hr : ∀ i j, i < n → j < s → RV w S ρ H (f i j) (us i j) []) : RV w S ρ H (.rof s n f) (.slice A n cap) []
  | rpf (k j s n : Nat) (f : Nat → Nat → D) (b base : Nat) (us : Nat → Nat → Value) (hb : S b) (hp : ∀ i j, i < n → j < s → (f i j).pf0 = true)
      (hc : ∀ i j, i < n → j < s → w.cell? ⟨b, base + (i * s + j), none⟩ = some (us i j)) (hr : ∀ i j, i < n → j < s → RV w S ρ H (f i j) (us i j) []) : RV w S ρ H (.rpf k j s n f) (.pointer (some ⟨b, base + (k * s + j), none⟩)) []
  | rpb (k : Nat) (l : List UInt8) (b base : Nat) (hb : S b) (hc : ∀ i, i < l.length → w.cell? ⟨b, base + i, none⟩ = some (Proofs.YtabkpoklihkifaaDoor.u8 (gb l i))) : RV w S ρ H (.rpb k l) (.pointer (some ⟨b, base + k, none⟩)) []
  | lsl (n : Nat) (A : Option Addr) (cap : Nat) (hn : n ≤ cap) (hm : cap ≤ maxLen) : RV w S ρ H (.lsl n) (.slice A n cap) []
  | aggb (l : List UInt8) : RV w S ρ H (.aggb l) (.agg (u8s l).toArray) []
  | agg (cs : List D) (vs : List Value) (Fs : List (List Nat)) (F : List Nat) (hv : vs.length = cs.length) (hf : Fs.length = cs.length) (hF : F = Fs.flatten)
      (hr : ∀ (i : Nat) (c : D) (u : Value) (f : List Nat), cs[i]? = some c → vs[i]? = some u → Fs[i]? = some f → RV w S ρ H c u f) : RV w S ρ H (.agg cs) (.agg vs.toArray) F
  | tup (cs : List D) (vs : List Value) (Fs : List (List Nat)) (F : List Nat) (hv : vs.length = cs.length) (hf : Fs.length = cs.length) (hF : F = Fs.flatten)
      (hr : ∀ (i : Nat) (c : D) (u : Value) (f : List Nat), cs[i]? = some c → vs[i]? = some u → Fs[i]? = some f → RV w S ρ H c u f) : RV w S ρ H (.tup cs) (.tuple vs.toArray) F
  | iff (c : Bool) (d : D) (v : Value) (h : c = true → RV w S ρ H d v []) (h0 : c = false → v = undef) : RV w S ρ H (.iff c d) v []
  | chunk (f : Nat) (l : List UInt8) (n : Nat) (b1 b2 : Nat) (A : Option Addr) (m cap : Nat) (h1 : S b1) (h2 : S b2) (h : RdS w S A m cap l)
      (hc1 : w.cell? ⟨b1, 0, none⟩ = some (.slice A m cap)) (hc2 : w.cell? ⟨b2, 0, none⟩ = some (.int .i64 n)) : RV w S ρ H (.chunk f l n) (.func (.func f) #[] #[.pointer (some ⟨b1, 0, none⟩), .pointer (some ⟨b2, 0, none⟩)]) []
  | chunko (f o g off len n : Nat) (b1 b2 : Nat) (A : Option Addr) (cap : Nat) (h1 : S b1) (h2 : S b2) (hm : len ≤ cap) (hg : g ≤ (H o).gen) (h : g = (H o).gen → SlAt (ρ o) (H o) off len (.slice A len cap))
      (hc1 : w.cell? ⟨b1, 0, none⟩ = some (.slice A len cap)) (hc2 : w.cell? ⟨b2, 0, none⟩ = some (.int .i64 n)) : RV w S ρ H (.chunko f o g off len n) (.func (.func f) #[] #[.pointer (some ⟨b1, 0, none⟩), .pointer (some ⟨b2, 0, none⟩)]) []
  | ownb (l : List UInt8) (A : Option Addr) (n cap : Nat) (F : List Nat) (cur : Array Value) (off : Nat) (hl : l.length = n) (h : RowAt w A n cap 1 F cur off)
      (hc : ∀ i, i < n → cur[off + i]? = some (Proofs.YtabkpoklihkifaaDoor.u8 (gb l i))) : RV w S ρ H (.ownb l) (.slice A n cap) F
  | owns (s n : Nat) (cs : List D) (A : Option Addr) (cap : Nat) (F F0 : List Nat) (Fs : List (List Nat)) (cur : Array Value) (off : Nat) (hl : cs.length = n * s) (h : RowAt w A n cap s F0 cur off) (hf : Fs.length = cs.length) (hF : F = F0 ++ Fs.flatten)
      (hr : ∀ (i : Nat) (c : D) (u : Value) (f : List Nat), cs[i]? = some c → cur[off + i]? = some u → Fs[i]? = some f → RV w S ρ H c u f) : RV w S ρ H (.owns s n cs) (.slice A n cap) F
  | ownp (cs : List D) (b base : Nat) (cur : Array Value) (E : TypeId) (fz : Nat × Nat) (F : List Nat) (Fs : List (List Nat)) (hh : w.heap[b]? = some (.cells cur E fz)) (hz : Loose fz cur.size) (hs : base + cs.length ≤ cur.size) (hf : Fs.length = cs.length) (hF : F = b :: Fs.flatten)
      (hr : ∀ (i : Nat) (c : D) (u : Value) (f : List Nat), cs[i]? = some c → cur[base + i]? = some u → Fs[i]? = some f → RV w S ρ H c u f) : RV w S ρ H (.ownp cs) (.pointer (some ⟨b, base, none⟩)) F

theorem mem_flat_of {Fs : List (List Nat)} {i : Nat} {f : List Nat} (h : Fs[i]? = some f) {b : Nat} (hb : b ∈ f) : b ∈ Fs.flatten :=
  List.mem_flatten.2 ⟨f, List.mem_of_getElem? h, hb⟩

theorem RowAt.same {w w' : World} {A : Option Addr} {n cap s : Nat} {F : List Nat} {cur : Array Value} {off : Nat} (h : RowAt w A n cap s F cur off) (hw : ∀ b ∈ F, w'.heap[b]? = w.heap[b]?) : RowAt w' A n cap s F cur off := by
  obtain ⟨h1, h2, h3⟩ := h
  refine ⟨h1, h2, ?_⟩
  rcases h3 with h3 | ⟨b, E, fz, rfl, hA, hh, r⟩
  · exact .inl h3
  · exact .inr ⟨b, E, fz, rfl, hA, (hw b (by simp)).trans hh, r⟩

theorem RV.mono {w w' : World} {S S' : Nat → Prop} {ρ ρ' : Nat → Pl} {H H' : Nat → Sh} (hS : ∀ b, S b → S' b) (hw : ∀ b, S b → w'.heap[b]? = w.heap[b]?)
    (hH : ∀ o, (H o).gen ≤ (H' o).gen ∧ ((H' o).gen = (H o).gen → H' o = H o ∧ ρ' o = ρ o)) {d : D} {v : Value} {F : List Nat} (h : RV w S ρ H d v F) :
    (∀ b ∈ F, w'.heap[b]? = w.heap[b]?) → RV w' S' ρ' H' d v F := by
  induction h with
  | bot v => intro _; exact .bot v
  | bool b => intro _; exact .bool b
  | int k n => intro _; exact .int k n
  | u8 x => intro _; exact .u8 x
  | u32 x => intro _; exact .u32 x
  | str l => intro _; exact .str l
  | nilP => intro _; exact .nilP
  | nilS => intro _; exact .nilS
  | nilF => intro _; exact .nilF
  | fn f => intro _; exact .fn f
  | ptr o g off v h1 hg h =>
    intro _
    refine .ptr o g off v h1 (Nat.le_trans hg (hH o).1) (fun e => ?_)
    have e2 : (H' o).gen = (H o).gen := Nat.le_antisymm (e ▸ hg) (hH o).1
    obtain ⟨e3, e4⟩ := (hH o).2 e2
    rw [e4]
    exact h (e.trans e2)
  | sl o g off len v h1 hg h =>
    intro _
    refine .sl o g off len v h1 (Nat.le_trans hg (hH o).1) (fun e => ?_)
    have e2 : (H' o).gen = (H o).gen := Nat.le_antisymm (e ▸ hg) (hH o).1
    obtain ⟨e3, e4⟩ := (hH o).2 e2
    rw [e3, e4]
    exact h (e.trans e2)
  | rob l A n cap h => intro _; exact .rob l A n cap (h.mono hS hw)
  | ros s n cs A cap b off us hl hn hm hA hc hr ih =>
    intro _
    exact .ros s n cs A cap b off us hl hn hm (fun h => ⟨(hA h).1, hS _ (hA h).2⟩) (fun h i c e => (World.cell?_of_block (a := ⟨b, off + i, none⟩) (hw b (hA h).2)).trans (hc h i c e)) (fun i c e => ih i c e (by simp))
  | rop off cs b base us hb hc hr ih =>
    intro _
    exact .rop off cs b base us (hS _ hb) (fun i c e => (World.cell?_of_block (a := ⟨b, base + i, none⟩) (hw b hb)).trans (hc i c e)) (fun i c e => ih i c e (by simp))
  | rof s n f A cap b off us hn hm hp hA hc hr ih =>
    intro _
    exact .rof s n f A cap b off us hn hm hp (fun h => ⟨(hA h).1, hS _ (hA h).2⟩) (fun i j hi hj => (World.cell?_of_block (a := ⟨b, off + (i * s + j), none⟩) (hw b (hA (by omega)).2)).trans (hc i j hi hj)) (fun i j hi hj => ih i j hi hj (by simp))
  | rpf k j s n f b base us hb hp hc hr ih =>
    intro _
    exact .rpf k j s n f b base us (hS _ hb) hp (fun i j hi hj => (World.cell?_of_block (a := ⟨b, base + (i * s + j), none⟩) (hw b hb)).trans (hc i j hi hj)) (fun i j hi hj => ih i j hi hj (by simp))
  | rpb k l b base hb hc =>
    intro _
    exact .rpb k l b base (hS _ hb) (fun i hi => (World.cell?_of_block (a := ⟨b, base + i, none⟩) (hw b hb)).trans (hc i hi))
  | lsl n A cap hn hm => intro _; exact .lsl n A cap hn hm
  | aggb l => intro _; exact .aggb l
  | agg cs vs Fs F hv hf hF hr ih =>
    intro hb
    subst hF
    exact .agg cs vs Fs _ hv hf rfl (fun i c u f h1 h2 h3 => ih i c u f h1 h2 h3 (fun b h => hb b (mem_flat_of h3 h)))
  | tup cs vs Fs F hv hf hF hr ih =>
    intro hb
    subst hF
    exact .tup cs vs Fs _ hv hf rfl (fun i c u f h1 h2 h3 => ih i c u f h1 h2 h3 (fun b h => hb b (mem_flat_of h3 h)))
  | iff c d v h h0 ih => intro _; exact .iff c d v (fun e => ih e (by simp)) h0
  | chunk f l n b1 b2 A m cap h1 h2 h hc1 hc2 =>
    intro _
    exact .chunk f l n b1 b2 A m cap (hS _ h1) (hS _ h2) (h.mono hS hw) ((World.cell?_of_block (a := ⟨b1, 0, none⟩) (hw b1 h1)).trans hc1) ((World.cell?_of_block (a := ⟨b2, 0, none⟩) (hw b2 h2)).trans hc2)
  | chunko f o g off len n b1 b2 A cap h1 h2 hm hg h hc1 hc2 =>
    intro _
    refine .chunko f o g off len n b1 b2 A cap (hS _ h1) (hS _ h2) hm (Nat.le_trans hg (hH o).1) (fun e => ?_) ((World.cell?_of_block (a := ⟨b1, 0, none⟩) (hw b1 h1)).trans hc1) ((World.cell?_of_block (a := ⟨b2, 0, none⟩) (hw b2 h2)).trans hc2)
    have e2 : (H' o).gen = (H o).gen := Nat.le_antisymm (e ▸ hg) (hH o).1
    obtain ⟨e3, e4⟩ := (hH o).2 e2
    rw [e3, e4]
    exact h (e.trans e2)
  | ownb l A n cap F cur off hl h hc =>
    intro hb
    exact .ownb l A n cap F cur off hl (h.same hb) hc
  | owns s n cs A cap F F0 Fs cur off hl h hf hF hr ih =>
    intro hb
    subst hF
    exact .owns s n cs A cap _ F0 Fs cur off hl (h.same fun b hm => hb b (List.mem_append_left _ hm)) hf rfl (fun i c u f h1 h2 h3 => ih i c u f h1 h2 h3 (fun b h => hb b (List.mem_append_right _ (mem_flat_of h3 h))))
  | ownp cs b base cur E fz F Fs hh hz hs hf hF hr ih =>
    intro hb
    subst hF
    exact .ownp cs b base cur E fz _ Fs ((hb b (by simp)).trans hh) hz hs hf rfl (fun i c u f h1 h2 h3 => ih i c u f h1 h2 h3 (fun b h => hb b (List.mem_cons_of_mem _ (mem_flat_of h3 h))))
end Go.Proofs.YtabkpoklihkifaaDoor

/- The abstract state of a call (slots and objects), and how a frame and a world stand for one. Over any program. -/
namespace Go.Proofs.YtabkpoklihkifaaDoor
open Go Go.RowKit
set_option linter.unusedVariables false
set_option linter.unusedSimpArgs false

inductive Cont where
  | bytes (l : List UInt8)
  | cells (cs : List D)
def Cont.len : Cont → Nat
  | .bytes l => l.length
  | .cells cs => cs.length
structure Ob where
  sh : Sh
  ct : Option Cont
def Ob.no : Ob := ⟨⟨0, 0, 0⟩, none⟩

def look {α : Type} (d : α) : List (Nat × α) → Nat → α
  | [], _ => d
  | (k, v) :: r, t => if k = t then v else look d r t

structure St where
  sl : List (Nat × D)
  hp : List (Nat × Ob)
  /-- the block for what rounds of a range over a function defer -/
  dk : List Nat := []
def St.slot (s : St) (t : Nat) : D := look .bot s.sl t
def St.ob (s : St) (o : Nat) : Ob := look .no s.hp o
def St.sh (s : St) (o : Nat) : Sh := (s.ob o).sh
/-- A slot is written. -/
def St.put (s : St) (t : Nat) (d : D) : St := { s with sl := (t, d) :: s.sl }
def St.puto (s : St) (t : Option Nat) (d : D) : St :=
  match t with
  | some t => s.put t d
  | none => s
/-- An object is laid. -/
def St.lay (s : St) (o : Nat) (ob : Ob) : St := { s with hp := (o, ob) :: s.hp }

def upd {α : Type} (f : Nat → α) (a : Nat) (v : α) : Nat → α := fun x => if x = a then v else f x
theorem upd_same {α : Type} (f : Nat → α) (a : Nat) (v : α) : upd f a v a = v := if_pos rfl
theorem upd_other {α : Type} (f : Nat → α) (a : Nat) (v : α) {x : Nat} (h : x ≠ a) : upd f a v x = f x := if_neg h
theorem St.ob_lay (s : St) (o : Nat) (ob : Ob) (x : Nat) : (s.lay o ob).ob x = if x = o then ob else s.ob x := by
  by_cases h : x = o
  · subst h; simp [St.ob, St.lay, look]
  · rw [if_neg h]
    show look .no ((o, ob) :: s.hp) x = _
    rw [look, if_neg (fun e => h e.symm)]
    rfl
theorem St.sh_lay (s : St) (o : Nat) (ob : Ob) : (s.lay o ob).sh = upd s.sh o ob.sh := by
  funext x
  unfold St.sh upd
  rw [St.ob_lay]
  split <;> rfl
theorem St.slot_lay (s : St) (o : Nat) (ob : Ob) (t : Nat) : (s.lay o ob).slot t = s.slot t := rfl
theorem St.ob_put (s : St) (t : Nat) (d : D) (x : Nat) : (s.put t d).ob x = s.ob x := rfl
theorem St.sh_put (s : St) (t : Nat) (d : D) : (s.put t d).sh = s.sh := rfl
theorem St.slot_put (s : St) (t : Nat) (d : D) (x : Nat) : (s.put t d).slot x = if x = t then d else s.slot x := by
  by_cases h : x = t
  · subst h; simp [St.slot, St.put, look]
  · rw [if_neg h]
    show look .bot ((t, d) :: s.sl) x = _
    rw [look, if_neg (fun e => h e.symm)]
    rfl

/-- What a row holds. -/
def CtR (w : World) (S : Nat → Prop) (ρ : Nat → Pl) (H : Nat → Sh) (base : Nat) (cur : Array Value) (Fs : List (List Nat)) : Cont → Prop
  | .bytes l => Fs = [] ∧ ∀ i, i < l.length → cur[base + i]? = some (u8 (gb l i))
  | .cells cs => Fs.length = cs.length ∧ ∀ (i : Nat) (c : D) (u : Value) (f : List Nat), cs[i]? = some c → cur[base + i]? = some u → Fs[i]? = some f → RV w S ρ H c u f
/-- An object in memory. -/
def ObR (w : World) (S : Nat → Prop) (ρ : Nat → Pl) (H : Nat → Sh) (p : Pl) (h : Sh) (c : Cont) (F : List Nat) : Prop :=
  h.clen = c.len ∧ ((c.len = 0 ∧ F = [] ∧ p.size = 0) ∨
    ∃ cur E fz Fs, w.heap[p.blk]? = some (.cells cur E fz) ∧ Loose fz cur.size ∧ cur.size = p.size ∧ p.base + c.len ≤ p.size ∧ F = p.blk :: Fs.flatten ∧ CtR w S ρ H p.base cur Fs c)

theorem ObR.mono {w w' : World} {S S' : Nat → Prop} {ρ ρ' : Nat → Pl} {H H' : Nat → Sh} (hS : ∀ b, S b → S' b) (hw : ∀ b, S b → w'.heap[b]? = w.heap[b]?)
    (hH : ∀ o, (H o).gen ≤ (H' o).gen ∧ ((H' o).gen = (H o).gen → H' o = H o ∧ ρ' o = ρ o)) {p : Pl} {h : Sh} {c : Cont} {F : List Nat} (hr : ObR w S ρ H p h c F)
    (hF : ∀ b ∈ F, w'.heap[b]? = w.heap[b]?) : ObR w' S' ρ' H' p h c F := by
  obtain ⟨h1, h2⟩ := hr
  refine ⟨h1, ?_⟩
  rcases h2 with h2 | ⟨cur, E, fz, Fs, hh, hz, hs, hb, rfl, hc⟩
  · exact .inl h2
  · refine .inr ⟨cur, E, fz, Fs, (hF _ (by simp)).trans hh, hz, hs, hb, rfl, ?_⟩
    cases c with
    | bytes l => exact hc
    | cells cs =>
      refine ⟨hc.1, fun i c u f h1 h2 h3 => (hc.2 i c u f h1 h2 h3).mono hS hw hH (fun b hb => hF b (List.mem_cons_of_mem _ (mem_flat_of h3 hb)))⟩

/-- What stays as it is through a call: the program, the world at its beginning, the blocks that it may turn, those that are read only, the tables, how many slots. -/
structure Ctx where
  P : Program
  w0 : World
  M : List Nat
  S0 : Nat → Prop
  G : Nat → Option D
  gp : ∀ g cs, G g = some cs → cs.pf0 = true
  n : Nat
  /-- values that stay what they are: the receiver, where it is the call's own (the address of object 900); in a round of a range over a function, the slots -/
  keep : D → Value → Prop
  /-- the record of the range over a function, in a round of which the walk is -/
  rnd : Option Nat
def dfl (l : List Nat) : List Deferred := l.map fun r => { target := .collected r, args := #[] }

/-- Rows stay as long as they are. -/
def Szs (w w' : World) : Prop := ∀ (b : Nat) (cur : Array Value) (E : TypeId) (fz : Nat × Nat), w.heap[b]? = some (.cells cur E fz) → ∃ cur' E' fz', w'.heap[b]? = some (.cells cur' E' fz') ∧ cur'.size = cur.size
theorem Szs.refl (w : World) : Szs w w := by
  intro b cur E fz h
  exact ⟨cur, E, fz, h, rfl⟩
theorem Szs.trans {a b c : World} (h : Szs a b) (h' : Szs b c) : Szs a c := by
  intro x cur E fz hx
  obtain ⟨c1, E1, f1, h1, h2⟩ := h x cur E fz hx
  obtain ⟨c2, E2, f2, h3, h4⟩ := h' x c1 E1 f1 h1
  exact ⟨c2, E2, f2, h3, h4.trans h2⟩
theorem Szs.same {w w' : World} (h : ∀ b, b < w.heap.size → w'.heap[b]? = w.heap[b]?) : Szs w w' := by
  intro b cur E fz hb
  exact ⟨cur, E, fz, (h b (Array.getElem?_eq_some_iff.1 hb).1).trans hb, rfl⟩

/-- Blocks that are rows. -/
def SOk (w : World) (S : Nat → Prop) : Prop := ∀ b, S b → ∃ cur E fz, w.heap[b]? = some (.cells cur E fz)
theorem SOk.lt {w : World} {S : Nat → Prop} (h : SOk w S) {b : Nat} (hb : S b) : b < w.heap.size := by
  obtain ⟨_, _, _, e⟩ := h b hb
  exact (Array.getElem?_eq_some_iff.1 e).1
theorem SOk.same {w w' : World} {S : Nat → Prop} (h : SOk w S) (hw : ∀ b, S b → w'.heap[b]? = w.heap[b]?) : SOk w' S := fun b hb => by rw [hw b hb]; exact h b hb
structure RepW (C : Ctx) (s : St) (ρ : Nat → Pl) (S : Nat → Prop) (Φ : Nat → List Nat) (w : World) : Prop where
  os : w.os = C.w0.os
  tape : w.tape = C.w0.tape
  output : w.output = C.w0.output
  size : C.w0.heap.size ≤ w.heap.size
  szs : Szs C.w0 w
  fr : ∀ b, b < C.w0.heap.size → b ∉ C.M → w.heap[b]? = C.w0.heap[b]?
  s0 : ∀ b, C.S0 b → S b
  s1 : ∀ b, S b → b < w.heap.size ∧ (C.S0 b ∨ C.w0.heap.size ≤ b ∨ b ∈ C.M)
  sc : SOk w S
  gl : ∀ g cs, C.G g = some cs → RV w S ρ s.sh cs (.pointer (some ⟨g, 0, none⟩)) []
  ob : ∀ o c, (s.ob o).ct = some c → ObR w S ρ s.sh (ρ o) (s.sh o) c (Φ o)
  rv : ∀ d v, C.keep d v → RV w S ρ s.sh d v []
  dk : ∀ r ∈ s.dk, w.heap[r]? = some (.deferred (some []))
  dkn : s.dk.Nodup ∧ ∀ r ∈ s.dk, C.w0.heap.size ≤ r ∧ ¬ S r
  own : ∀ o c, (s.ob o).ct = some c → (Φ o).Nodup ∧ ∀ b ∈ Φ o, ¬ S b ∧ b < w.heap.size ∧ (C.w0.heap.size ≤ b ∨ b ∈ C.M) ∧ b ∉ s.dk
  dis : ∀ o o' c c', (s.ob o).ct = some c → (s.ob o').ct = some c' → o ≠ o' → ∀ b ∈ Φ o, b ∉ Φ o'

def Rep (C : Ctx) (s : St) (a : Act) (w : World) : Prop :=
  a.defers = dfl s.dk ∧ a.tmps.size = C.n ∧ ∃ ρ S Φ, RepW C s ρ S Φ w ∧ ∀ t, RV w S ρ s.sh (s.slot t) (a.tmps.getD t undef) []

section
variable {C : Ctx} {s : St} {ρ : Nat → Pl} {S : Nat → Prop} {Φ : Nat → List Nat} {w w' : World}

/-- One object turns, or is laid. -/
theorem RepW.one (h : RepW C s ρ S Φ w) (o0 : Nat) (ob : Ob) (p : Pl) (F : List Nat)
    (hos : w'.os = w.os) (htape : w'.tape = w.tape) (hout : w'.output = w.output) (hsz : w.heap.size ≤ w'.heap.size) (hszs : Szs w w')
    (hsh : (s.sh o0).gen < ob.sh.gen ∨ (ob.sh = s.sh o0 ∧ p = ρ o0))
    (hw : ∀ b, b < w.heap.size → ((s.ob o0).ct.isSome = true → b ∉ Φ o0) → w'.heap[b]? = w.heap[b]?)
    (hob : ∀ c, ob.ct = some c → ObR w' S (upd ρ o0 p) (upd s.sh o0 ob.sh) p ob.sh c F)
    (hF : ob.ct.isSome = true → F.Nodup ∧ ∀ b ∈ F, ¬ S b ∧ b < w'.heap.size ∧ (C.w0.heap.size ≤ b ∨ b ∈ C.M) ∧ b ∉ s.dk ∧ ∀ o c, o ≠ o0 → (s.ob o).ct = some c → b ∉ Φ o) :
    RepW C (s.lay o0 ob) (upd ρ o0 p) S (upd Φ o0 F) w' ∧ ∀ d v, RV w S ρ s.sh d v [] → RV w' S (upd ρ o0 p) (s.lay o0 ob).sh d v [] := by
  have hwS : ∀ b, S b → w'.heap[b]? = w.heap[b]? := fun b hb => hw b (h.s1 b hb).1 (fun hl hm => by
    obtain ⟨c, hc⟩ := Option.isSome_iff_exists.1 hl
    exact ((h.own o0 c hc).2 b hm).1 hb)
  have hH : ∀ o, (s.sh o).gen ≤ ((s.lay o0 ob).sh o).gen ∧ (((s.lay o0 ob).sh o).gen = (s.sh o).gen → (s.lay o0 ob).sh o = s.sh o ∧ upd ρ o0 p o = ρ o) := by
    intro o
    rw [St.sh_lay]
    by_cases ho : o = o0
    · subst ho
      rw [upd_same, upd_same]
      rcases hsh with h1 | ⟨h1, h2⟩
      · exact ⟨by omega, fun e => by omega⟩
      · rw [h1, h2]; exact ⟨Nat.le_refl _, fun _ => ⟨rfl, rfl⟩⟩
    · rw [upd_other _ _ _ ho, upd_other _ _ _ ho]
      exact ⟨Nat.le_refl _, fun _ => ⟨rfl, rfl⟩⟩
  have hoth : ∀ o c, o ≠ o0 → ((s.lay o0 ob).ob o).ct = some c → (s.ob o).ct = some c := fun o c ho hc => by
    rw [St.ob_lay, if_neg ho] at hc
    exact hc
  have hkeep : ∀ o c, o ≠ o0 → (s.ob o).ct = some c → ∀ b ∈ Φ o, w'.heap[b]? = w.heap[b]? := fun o c ho hc b hb =>
    hw b ((h.own o c hc).2 b hb).2.1 (fun hl => by
      obtain ⟨c0, hc0⟩ := Option.isSome_iff_exists.1 hl
      exact h.dis o o0 c c0 hc hc0 ho b hb)
  refine ⟨⟨hos.trans h.os, htape.trans h.tape, hout.trans h.output, Nat.le_trans h.size hsz, h.szs.trans hszs, ?_, h.s0, ?_, h.sc.same hwS, ?_, ?_, ?_, ?_, h.dkn, ?_, ?_⟩, fun d v hr => hr.mono (fun _ h => h) hwS hH (by simp)⟩
  · intro b hb hM
    refine (hw b (Nat.lt_of_lt_of_le hb h.size) (fun hl hm => ?_)).trans (h.fr b hb hM)
    obtain ⟨c, hc⟩ := Option.isSome_iff_exists.1 hl
    rcases ((h.own o0 c hc).2 b hm).2.2.1 with h1 | h1
    · omega
    · exact hM h1
  · intro b hb
    exact ⟨Nat.lt_of_lt_of_le (h.s1 b hb).1 hsz, (h.s1 b hb).2⟩
  · intro g cs hg
    exact (h.gl g cs hg).mono (fun _ h => h) hwS hH (by simp)
  · intro o c hc
    by_cases ho : o = o0
    · subst ho
      rw [St.ob_lay, if_pos rfl] at hc
      rw [St.sh_lay, upd_same, upd_same, upd_same]
      exact hob c hc
    · have hc' := hoth o c ho hc
      have := (h.ob o c hc').mono (fun _ h => h) hwS hH (hkeep o c ho hc')
      have e : (s.lay o0 ob).sh o = s.sh o := by rw [St.sh_lay, upd_other _ _ _ ho]
      rw [upd_other _ _ _ ho, upd_other _ _ _ ho, e]
      exact this
  · intro d v hv
    exact (h.rv d v hv).mono (fun _ h => h) hwS hH (by simp)
  · intro r hr
    have hd := h.dk r hr
    refine (hw r (Array.getElem?_eq_some_iff.1 hd).1 (fun hl hm => ?_)).trans hd
    obtain ⟨c, hc⟩ := Option.isSome_iff_exists.1 hl
    exact ((h.own o0 c hc).2 r hm).2.2.2 hr
  · intro o c hc
    by_cases ho : o = o0
    · subst ho
      rw [St.ob_lay, if_pos rfl] at hc
      rw [upd_same]
      have := hF (by rw [hc]; rfl)
      exact ⟨this.1, fun b hb => ⟨(this.2 b hb).1, (this.2 b hb).2.1, (this.2 b hb).2.2.1, (this.2 b hb).2.2.2.1⟩⟩
    · have hc' := hoth o c ho hc
      rw [upd_other _ _ _ ho]
      have := h.own o c hc'
      exact ⟨this.1, fun b hb => ⟨(this.2 b hb).1, Nat.lt_of_lt_of_le (this.2 b hb).2.1 hsz, (this.2 b hb).2.2⟩⟩
  · intro o o' c c' hc hc' hne b hb
    by_cases ho : o = o0
    · subst ho
      have ho' : o' ≠ o := fun e => hne e.symm
      rw [upd_same] at hb
      rw [upd_other _ _ _ ho']
      rw [St.ob_lay, if_pos rfl] at hc
      exact ((hF (by rw [hc]; rfl)).2 b hb).2.2.2.2 o' c' ho' (hoth o' c' ho' hc')
    · rw [upd_other _ _ _ ho] at hb
      by_cases ho' : o' = o0
      · subst ho'
        rw [upd_same]
        intro hm
        rw [St.ob_lay, if_pos rfl] at hc'
        exact ((hF (by rw [hc']; rfl)).2 b hm).2.2.2.2 o c ho (hoth o c ho hc) hb
      · rw [upd_other _ _ _ ho']
        exact h.dis o o' c c' (hoth o c ho hc) (hoth o' c' ho' hc') hne b hb

/-- The world draws. -/
theorem RepW.drew (h : RepW C s ρ S Φ w) : RepW C s ρ S Φ w.drew ∧ ∀ d v, RV w S ρ s.sh d v [] → RV w.drew S ρ s.sh d v [] := by
  have hm : ∀ {d v F}, RV w S ρ s.sh d v F → RV w.drew S ρ s.sh d v F := fun hr => hr.mono (w := w) (w' := w.drew) (fun _ h => h) (fun _ _ => rfl) (fun o => ⟨Nat.le_refl _, fun _ => ⟨rfl, rfl⟩⟩) (fun _ _ => rfl)
  exact ⟨⟨h.os, h.tape, h.output, h.size, h.szs.trans (Szs.same (w' := w.drew) fun _ _ => rfl), h.fr, h.s0, h.s1, h.sc.same (w' := w.drew) (fun _ _ => rfl), fun g cs hg => hm (h.gl g cs hg), fun o c hc => (h.ob o c hc).mono (w := w) (w' := w.drew) (fun _ h => h) (fun _ _ => rfl) (fun o => ⟨Nat.le_refl _, fun _ => ⟨rfl, rfl⟩⟩) (fun _ _ => rfl), fun d v hv => hm (h.rv d v hv), h.dk, h.dkn, h.own, h.dis⟩, fun d v hr => hm hr⟩

theorem getD_set {a : Array Value} {t : Nat} {v : Value} (h : t < a.size) (x : Nat) : (a.setIfInBounds t v).getD x undef = if x = t then v else a.getD x undef := by
  by_cases hx : x = t
  · subst hx; simp [Array.getD_eq_getD_getElem?, h]
  · rw [if_neg hx]
    simp only [Array.getD_eq_getD_getElem?]
    rw [Array.getElem?_setIfInBounds_ne (fun e => hx e.symm)]

/-- A value comes into a slot. -/
theorem rep_put {a : Act} {s' : St} {ρ' : Nat → Pl} {S' : Nat → Prop} {Φ' : Nat → List Nat} (hd : a.defers = dfl s'.dk) (hn : a.tmps.size = C.n) (h : RepW C s' ρ' S' Φ' w')
    (hs : ∀ t, RV w' S' ρ' s'.sh (s'.slot t) (a.tmps.getD t undef) []) (t : Option Nat) (ht : ∀ x, t = some x → x < C.n) (d : D) (v : Value) (hv : RV w' S' ρ' s'.sh d v []) : Rep C (s'.puto t d) (a.put t v) w' := by
  cases t with
  | none => exact ⟨hd, hn, ρ', S', Φ', h, hs⟩
  | some t =>
    have ht' := ht t rfl
    refine ⟨hd, by simpa [Act.put] using hn, ρ', S', Φ', ⟨h.os, h.tape, h.output, h.size, h.szs, h.fr, h.s0, h.s1, h.sc, h.gl, h.ob, h.rv, h.dk, h.dkn, h.own, h.dis⟩, fun x => ?_⟩
    show RV w' S' ρ' s'.sh ((s'.put t d).slot x) ((a.tmps.setIfInBounds t v).getD x undef) []
    rw [St.slot_put, getD_set (by rw [hn]; exact ht')]
    split
    · exact hv
    · exact hs x
end
end Go.Proofs.YtabkpoklihkifaaDoor

/- What constants, and operations on numbers, bytes and strings, read as. Over any program. -/
namespace Go.Proofs.YtabkpoklihkifaaDoor
open Go Go.RowKit
set_option linter.unusedVariables false
set_option linter.unusedSimpArgs false

def isU8v : Value → Bool
  | .int .u8 n => decide (0 ≤ n) && decide (n ≤ 255)
  | _ => false
def byteOf : Value → UInt8
  | .int .u8 n => b8 n
  | _ => 0
def ofCell : Value → D
  | .bool b => .bool b
  | .int .u8 n => if 0 ≤ n ∧ n ≤ 255 then .u8 (b8 n) else .bot
  | .int .u32 n => if 0 ≤ n ∧ n < 4294967296 then .u32 (UInt32.ofNat n.toNat) else .bot
  | .int k n => .int k n
  | .string s => .str s.data.toList
  | .pointer none => .nilP
  | .slice none 0 0 => .nilS
  | .nilFunc => .nilF
  | _ => .bot
def ofVal : Value → D
  | .agg cs => if cs.toList.all isU8v then .aggb (cs.toList.map byteOf) else .agg (cs.toList.map ofCell)
  | v => ofCell v

section
variable {w : World} {S : Nat → Prop} {ρ : Nat → Pl} {H : Nat → Sh}
theorem isU8v_of {v : Value} (h : isU8v v = true) : v = u8 (byteOf v) := by
  unfold isU8v at h
  split at h
  · rename_i n
    simp only [Bool.and_eq_true, decide_eq_true_eq] at h
    exact (u8_b8 h.1 h.2).symm
  · cases h
theorem ofCell_ok (v : Value) : RV w S ρ H (ofCell v) v [] := by
  unfold ofCell
  split
  · exact .bool _
  · split
    · rename_i n h
      rw [← u8_b8 h.1 h.2]
      exact .u8 _
    · exact .bot _
  · split
    · rename_i n h
      have e : Value.int IntKind.u32 n = u32v (UInt32.ofNat n.toNat) := by
        rw [← u32_lit _ (by omega)]
        congr 1
        omega
      rw [e]
      exact .u32 _
    · exact .bot _
  · exact .int _ _
  · exact .str _
  · exact .nilP
  · exact .nilS
  · exact .nilF
  · exact .bot _
theorem flat_nil {n : Nat} : (List.replicate n ([] : List Nat)).flatten = [] := by
  induction n with
  | zero => rfl
  | succ n ih => rw [List.replicate_succ, List.flatten_cons, ih]; rfl
theorem RV.agg0 {cs : List D} {vs : List Value} (hv : vs.length = cs.length) (hr : ∀ (i : Nat) (c : D) (u : Value), cs[i]? = some c → vs[i]? = some u → RV w S ρ H c u []) : RV w S ρ H (.agg cs) (.agg vs.toArray) [] := by
  refine .agg cs vs (List.replicate cs.length []) [] hv (by simp) flat_nil.symm ?_
  intro i c u f h1 h2 h3
  rw [List.getElem?_replicate] at h3
  split at h3
  · injection h3 with h3
    subst h3
    exact hr i c u h1 h2
  · cases h3
theorem RV.tup0 {cs : List D} {vs : List Value} (hv : vs.length = cs.length) (hr : ∀ (i : Nat) (c : D) (u : Value), cs[i]? = some c → vs[i]? = some u → RV w S ρ H c u []) : RV w S ρ H (.tup cs) (.tuple vs.toArray) [] := by
  refine .tup cs vs (List.replicate cs.length []) [] hv (by simp) flat_nil.symm ?_
  intro i c u f h1 h2 h3
  rw [List.getElem?_replicate] at h3
  split at h3
  · injection h3 with h3
    subst h3
    exact hr i c u h1 h2
  · cases h3
theorem aggb_of {cs : List Value} (h : cs.all isU8v = true) : cs = u8s (cs.map byteOf) := by
  induction cs with
  | nil => rfl
  | cons c r ih =>
    simp only [List.all_cons, Bool.and_eq_true] at h
    rw [List.map_cons]
    show c :: r = u8 (byteOf c) :: u8s (r.map byteOf)
    rw [← ih h.2, ← isU8v_of h.1]
theorem ofVal_ok (v : Value) : RV w S ρ H (ofVal v) v [] := by
  unfold ofVal
  split
  · rename_i cs
    split
    · rename_i h
      have e := aggb_of h
      have e2 : cs = (u8s (cs.toList.map byteOf)).toArray := by
        apply Array.ext'
        exact e
      generalize cs.toList.map byteOf = l at *
      subst e2
      exact .aggb _
    · refine RV.agg0 (vs := cs.toList) (by simp) ?_
      intro i c u h1 h2
      rw [List.getElem?_map, h2] at h1
      injection h1 with h1
      subst h1
      exact ofCell_ok u
  · exact ofCell_ok v
end

/-- The types, as far as they are looked at. -/
inductive Ty where
  | none
  | bool
  | int (k : IntKind)
  | str
  | slice (e : Nat)
  | arr (n e : Nat)
  | struct (fs : List (Nat × Nat))
  | ptr (e : Nat)
def tyOf : Option TypeDesc → Ty
  | some .bool => .bool
  | some (.int k) => .int k
  | some .string => .str
  | some (.slice e) => .slice e
  | some (.array n e) => .arr n e
  | some (.struct fs) => .struct (fs.toList.map fun f => (f.offset, f.type))
  | some (.pointer e) => .ptr e
  | _ => .none
structure TI where
  ty : Ty
  sz : Nat
  by_ : Nat
  zero : D
  eqg : Bool
def tiOf (P : Program) (t : TypeId) : TI :=
  match P.info? t with
  | some i => ⟨tyOf (P.underlying t), i.size, i.bytes, (match i.zero with | some z => ofVal z | none => .bot), P.eqGuardType P.depth t⟩
  | none => ⟨.none, 0, 0, .bot, P.eqGuardType P.depth t⟩

theorem tyOf_slice {d : Option TypeDesc} {e : Nat} (h : tyOf d = .slice e) : d = some (.slice e) := by
  unfold tyOf at h; split at h <;> first | (cases h; done) | (injection h with h; subst h; rfl)
theorem tyOf_arr {d : Option TypeDesc} {n e : Nat} (h : tyOf d = .arr n e) : d = some (.array n e) := by
  unfold tyOf at h; split at h <;> first | (cases h; done) | (injection h with h1 h2; subst h1; subst h2; rfl)
theorem tyOf_int {d : Option TypeDesc} {k : IntKind} (h : tyOf d = .int k) : d = some (.int k) := by
  unfold tyOf at h; split at h <;> first | (cases h; done) | (injection h with h; subst h; rfl)
theorem tyOf_str {d : Option TypeDesc} (h : tyOf d = .str) : d = some .string := by
  unfold tyOf at h; split at h <;> first | (cases h; done) | rfl
theorem tyOf_bool {d : Option TypeDesc} (h : tyOf d = .bool) : d = some .bool := by
  unfold tyOf at h; split at h <;> first | (cases h; done) | rfl
theorem tyOf_ptr {d : Option TypeDesc} {e : Nat} (h : tyOf d = .ptr e) : d = some (.pointer e) := by
  unfold tyOf at h; split at h <;> first | (cases h; done) | (injection h with h; subst h; rfl)
theorem tyOf_struct {d : Option TypeDesc} {fs : List (Nat × Nat)} (h : tyOf d = .struct fs) : ∃ fds, d = some (.struct fds) ∧ fds.toList.map (fun f => (f.offset, f.type)) = fs := by
  unfold tyOf at h; split at h <;> first | (cases h; done) | (injection h with h; exact ⟨_, rfl, h⟩)

section
variable {P : Program} {t : TypeId}
theorem tiOf_ty : (tiOf P t).ty = .none ∨ ∃ i, P.info? t = some i ∧ (tiOf P t).ty = tyOf (P.underlying t) := by
  unfold tiOf
  split
  · rename_i i hi
    exact .inr ⟨i, hi, rfl⟩
  · exact .inl rfl
theorem ti_slice {e : Nat} (h : (tiOf P t).ty = .slice e) : P.underlying t = some (.slice e) := by
  rcases tiOf_ty (P := P) (t := t) with h0 | ⟨i, hi, h1⟩
  · rw [h0] at h; cases h
  · exact tyOf_slice (h1.symm.trans h)
theorem ti_arr {n e : Nat} (h : (tiOf P t).ty = .arr n e) : P.underlying t = some (.array n e) := by
  rcases tiOf_ty (P := P) (t := t) with h0 | ⟨i, hi, h1⟩
  · rw [h0] at h; cases h
  · exact tyOf_arr (h1.symm.trans h)
theorem ti_int {k : IntKind} (h : (tiOf P t).ty = .int k) : P.underlying t = some (.int k) := by
  rcases tiOf_ty (P := P) (t := t) with h0 | ⟨i, hi, h1⟩
  · rw [h0] at h; cases h
  · exact tyOf_int (h1.symm.trans h)
theorem ti_str (h : (tiOf P t).ty = .str) : P.underlying t = some .string := by
  rcases tiOf_ty (P := P) (t := t) with h0 | ⟨i, hi, h1⟩
  · rw [h0] at h; cases h
  · exact tyOf_str (h1.symm.trans h)
theorem ti_bool (h : (tiOf P t).ty = .bool) : P.underlying t = some .bool := by
  rcases tiOf_ty (P := P) (t := t) with h0 | ⟨i, hi, h1⟩
  · rw [h0] at h; cases h
  · exact tyOf_bool (h1.symm.trans h)
theorem ti_ptr {e : Nat} (h : (tiOf P t).ty = .ptr e) : P.underlying t = some (.pointer e) := by
  rcases tiOf_ty (P := P) (t := t) with h0 | ⟨i, hi, h1⟩
  · rw [h0] at h; cases h
  · exact tyOf_ptr (h1.symm.trans h)
theorem ti_struct {fs : List (Nat × Nat)} (h : (tiOf P t).ty = .struct fs) : ∃ fds, P.underlying t = some (.struct fds) ∧ fds.toList.map (fun f => (f.offset, f.type)) = fs := by
  rcases tiOf_ty (P := P) (t := t) with h0 | ⟨i, hi, h1⟩
  · rw [h0] at h; cases h
  · exact tyOf_struct (h1.symm.trans h)
theorem ti_info (h : (tiOf P t).ty ≠ .none) : ∃ i, P.info? t = some i ∧ i.size = (tiOf P t).sz ∧ i.bytes = (tiOf P t).by_ := by
  unfold tiOf at *
  split at h
  · rename_i i hi
    exact ⟨i, hi, rfl, rfl⟩
  · exact absurd rfl h
theorem ti_zero (h : (tiOf P t).zero ≠ .bot) : ∃ i z, P.info? t = some i ∧ i.size = (tiOf P t).sz ∧ i.bytes = (tiOf P t).by_ ∧ i.zero = some z ∧ ofVal z = (tiOf P t).zero := by
  unfold tiOf at *
  split at h
  · rename_i i hi
    rcases hz : i.zero with _ | z
    · rw [hz] at h; exact absurd rfl h
    · exact ⟨i, z, hi, rfl, rfl, hz, by simp only [hz]⟩
  · exact absurd rfl h
theorem ti_eqg : (tiOf P t).eqg = P.eqGuardType P.depth t := by unfold tiOf; split <;> rfl
theorem run_sizeOf {w : World} {n : Nat} {i : TypeInfo} (hi : P.info? t = some i) (hn : i.size = n) : (sizeOf t).run P w = .ok n w := by
  simp [sizeOf, typeInfo, hi, hn]
end

/-! Bytes. -/
def shl8 (x : UInt8) (n : Nat) : UInt8 := UInt8.ofNat (x.toNat <<< n)
def shr8 (x : UInt8) (n : Nat) : UInt8 := UInt8.ofNat (x.toNat >>> n)
theorem u8_lt (x : UInt8) : x.toNat < 256 := x.toNat_lt
theorem wrap_u8 (n : Int) : IntKind.u8.wrap n = n % 256 := by simp [IntKind.wrap, IntKind.bits, IntKind.signed]
theorem ofInt_u8 (a : Nat) (ha : a < 256) : (BitVec.ofInt 8 (a : Int)).toNat = a := by
  rw [BitVec.ofInt_natCast, BitVec.toNat_ofNat]; exact Nat.mod_eq_of_lt (by omega)
theorem bin_add8 (t : TypeId) (a b : UInt8) : binOp .add t (u8 a) (u8 b) = pure (u8 (a + b)) := by
  unfold u8
  rw [binOp_add]
  simp only [Op.intArith, wrap_u8]
  congr 2
theorem bin_sub8 (t : TypeId) (a b : UInt8) : binOp .sub t (u8 a) (u8 b) = pure (u8 (a - b)) := by
  have ha := u8_lt a
  have hb := u8_lt b
  unfold u8
  rw [binOp_sub]
  simp only [Op.intArith, wrap_u8]
  congr 2
  rw [UInt8.toNat_sub]
  omega
theorem bin_mul8 (t : TypeId) (a b : UInt8) : binOp .mul t (u8 a) (u8 b) = pure (u8 (a * b)) := by
  unfold u8
  rw [binOp_mul]
  simp only [Op.intArith, wrap_u8]
  congr 2
theorem bin_quo8 (t : TypeId) (a b : UInt8) (h : 0 < b.toNat) : binOp .quo t (u8 a) (u8 b) = pure (u8 (a / b)) := by
  have ha := u8_lt a
  have hd : a.toNat / b.toNat < 256 := Nat.lt_of_le_of_lt (Nat.div_le_self _ _) ha
  unfold u8
  rw [binOp_quo]
  have hb : ¬ (b.toNat : Int) = 0 := by omega
  have e : ((a.toNat : Int)).tdiv (b.toNat : Int) = ((a.toNat / b.toNat : Nat) : Int) := by rw [Int.tdiv_eq_ediv_of_nonneg (by omega)]; exact (Int.natCast_ediv _ _).symm
  simp only [Op.intDiv, if_neg hb, e, wrap_u8]
  congr 2
  rw [UInt8.toNat_div]
  generalize a.toNat / b.toNat = q at *
  generalize ((a.toNat : Int)).tdiv (b.toNat : Int) = r at *
  omega
theorem bin_rem8 (t : TypeId) (a b : UInt8) (h : 0 < b.toNat) : binOp .rem t (u8 a) (u8 b) = pure (u8 (a % b)) := by
  have ha := u8_lt a
  unfold u8
  rw [binOp_rem]
  have hb : ¬ (b.toNat : Int) = 0 := by omega
  have e : ((a.toNat : Int)).tmod (b.toNat : Int) = ((a.toNat % b.toNat : Nat) : Int) := by rw [Int.tmod_eq_emod_of_nonneg (by omega)]; exact (Int.natCast_emod _ _).symm
  simp only [Op.intDiv, if_neg hb, e]
  congr 2
theorem bin_xor8 (t : TypeId) (a b : UInt8) : binOp .xor t (u8 a) (u8 b) = pure (u8 (a ^^^ b)) := by
  have ha := u8_lt a
  have hb := u8_lt b
  unfold u8
  rw [binOp_xor]
  simp only [Op.intBits, bits]
  congr 2
  show IntKind.u8.wrap ((BitVec.ofInt 8 (a.toNat : Int) ^^^ BitVec.ofInt 8 (b.toNat : Int)).toNat : Int) = _
  have h : (a ^^^ b).toNat < 256 := u8_lt _
  rw [BitVec.toNat_xor, ofInt_u8 _ ha, ofInt_u8 _ hb, wrap_u8, UInt8.toNat_xor] at *
  omega
theorem bin_and8 (t : TypeId) (a b : UInt8) : binOp .and t (u8 a) (u8 b) = pure (u8 (a &&& b)) := by
  have ha := u8_lt a
  have hb := u8_lt b
  unfold u8
  rw [binOp_and]
  simp only [Op.intBits, bits]
  congr 2
  show IntKind.u8.wrap ((BitVec.ofInt 8 (a.toNat : Int) &&& BitVec.ofInt 8 (b.toNat : Int)).toNat : Int) = _
  have h : (a &&& b).toNat < 256 := u8_lt _
  rw [BitVec.toNat_and, ofInt_u8 _ ha, ofInt_u8 _ hb, wrap_u8, UInt8.toNat_and] at *
  omega
theorem bin_or8 (t : TypeId) (a b : UInt8) : binOp .or t (u8 a) (u8 b) = pure (u8 (a ||| b)) := by
  have ha := u8_lt a
  have hb := u8_lt b
  unfold u8
  rw [binOp_or]
  simp only [Op.intBits, bits]
  congr 2
  show IntKind.u8.wrap ((BitVec.ofInt 8 (a.toNat : Int) ||| BitVec.ofInt 8 (b.toNat : Int)).toNat : Int) = _
  have h : (a ||| b).toNat < 256 := u8_lt _
  rw [BitVec.toNat_or, ofInt_u8 _ ha, ofInt_u8 _ hb, wrap_u8, UInt8.toNat_or] at *
  omega
theorem bin_andNot8 (t : TypeId) (a b : UInt8) : binOp .andNot t (u8 a) (u8 b) = pure (u8 (a &&& ~~~b)) := by
  have ha := u8_lt a
  have hb := u8_lt b
  unfold u8
  rw [binOp_andNot]
  simp only [Op.intBits, bits]
  congr 2
  show IntKind.u8.wrap ((BitVec.ofInt 8 (a.toNat : Int) &&& ~~~(BitVec.ofInt 8 (b.toNat : Int))).toNat : Int) = _
  have h : (a &&& ~~~b).toNat < 256 := u8_lt _
  have e1 : BitVec.ofInt 8 (a.toNat : Int) = a.toBitVec := by apply BitVec.eq_of_toNat_eq; rw [ofInt_u8 _ ha]; rfl
  have e2 : BitVec.ofInt 8 (b.toNat : Int) = b.toBitVec := by apply BitVec.eq_of_toNat_eq; rw [ofInt_u8 _ hb]; rfl
  have e3 : (a &&& ~~~b).toNat = (a.toBitVec &&& ~~~b.toBitVec).toNat := rfl
  rw [e1, e2, ← e3, wrap_u8]
  omega
theorem bin_shl8 (t : TypeId) (a : UInt8) (k : IntKind) (n : Int) (h : 0 ≤ n) : binOp .shl t (u8 a) (.int k n) = pure (u8 (shl8 a n.toNat)) := by
  unfold u8
  rw [binOp_shl, shift_shl_any .u8 k _ n h]
  congr 2
  have hb : IntKind.u8.bits = 8 := rfl
  rw [wrap_u8, hb, shl8, UInt8.toNat_ofNat', Nat.shiftLeft_eq]
  have e : ((a.toNat : Int) * 2 ^ min n.toNat 8) = ((a.toNat * 2 ^ min n.toNat 8 : Nat) : Int) := by simp
  rw [e]
  by_cases hn : n.toNat ≤ 8
  · rw [Nat.min_eq_left hn]
    omega
  · rw [Nat.min_eq_right (by omega)]
    have h1 : a.toNat * 2 ^ n.toNat % 2 ^ 8 = 0 := by
      have : (2 : Nat) ^ n.toNat = 2 ^ (n.toNat - 8) * 2 ^ 8 := by rw [← Nat.pow_add]; congr 1; omega
      rw [this, ← Nat.mul_assoc, Nat.mul_mod_left]
    have h2 : a.toNat * 2 ^ 8 % 256 = 0 := by rw [show (2 : Nat) ^ 8 = 256 from rfl, Nat.mul_mod_left]
    rw [h1]
    omega
theorem bin_shr8 (t : TypeId) (a : UInt8) (k : IntKind) (n : Int) (h : 0 ≤ n) : binOp .shr t (u8 a) (.int k n) = pure (u8 (shr8 a n.toNat)) := by
  have ha := u8_lt a
  unfold u8
  rw [binOp_shr, shift_shr_any .u8 k _ n h]
  congr 2
  have hb : IntKind.u8.bits = 8 := rfl
  rw [hb, shr8, UInt8.toNat_ofNat', Nat.shiftRight_eq_div_pow]
  have hlt : a.toNat / 2 ^ n.toNat < 2 ^ 8 := Nat.lt_of_le_of_lt (Nat.div_le_self _ _) ha
  rw [Nat.mod_eq_of_lt hlt]
  have e : ((a.toNat : Int) / 2 ^ min n.toNat 8) = ((a.toNat / 2 ^ min n.toNat 8 : Nat) : Int) := by simp
  rw [e]
  by_cases hn : n.toNat ≤ 8
  · rw [Nat.min_eq_left hn]
  · rw [Nat.min_eq_right (by omega)]
    have h1 : a.toNat / 2 ^ 8 = 0 := Nat.div_eq_of_lt ha
    have h2 : a.toNat / 2 ^ n.toNat = 0 := Nat.div_eq_of_lt (Nat.lt_of_lt_of_le ha (by rw [show 256 = 2 ^ 8 from rfl]; exact Nat.pow_le_pow_right (by omega) (by omega)))
    rw [h1, h2]
theorem bin_sub32 (t : TypeId) (a b : UInt32) : binOp .sub t (u32v a) (u32v b) = pure (u32v (a - b)) := by
  have ha := u32_lt a
  have hb := u32_lt b
  unfold u32v
  rw [binOp_sub]
  simp only [Op.intArith, wrap_u32]
  congr 2
  rw [UInt32.toNat_sub]
  omega
theorem bin_mul32 (t : TypeId) (a b : UInt32) : binOp .mul t (u32v a) (u32v b) = pure (u32v (a * b)) := by
  unfold u32v
  rw [binOp_mul]
  simp only [Op.intArith, wrap_u32]
  congr 2

/-! Operations on two values. -/
def inR (k : IntKind) (n : Int) : Prop := k.min ≤ n ∧ n ≤ k.max
theorem wrap_inR (k : IntKind) (n : Int) (h : inR k n) : k.wrap n = n := by
  unfold inR IntKind.min IntKind.max at h
  unfold IntKind.wrap
  cases k <;> simp [IntKind.signed, IntKind.bits] at h ⊢ <;> omega
def cmpB (op : BinOp) (a b : Int) : Option D :=
  match op with
  | .eql => some (.bool (decide (a = b)))
  | .neq => some (.bool (!decide (a = b)))
  | .lss => some (.bool (decide (a < b)))
  | .leq => some (.bool (decide (a ≤ b)))
  | .gtr => some (.bool (decide (b < a)))
  | .geq => some (.bool (decide (b ≤ a)))
  | _ => none
def intB (op : BinOp) (k : IntKind) (a b : Int) : Option (Prop × D) :=
  match op with
  | .add => some (inR k (a + b), .int k (a + b))
  | .sub => some (inR k (a - b), .int k (a - b))
  | .mul => some (inR k (a * b), .int k (a * b))
  | .quo => some (0 ≤ a ∧ 0 < b ∧ inR k (a / b), .int k (a / b))
  | .rem => some (0 ≤ a ∧ 0 < b, .int k (a % b))
  | .and => some (True, .int k (bits .and k a b))
  | .or => some (True, .int k (bits .or k a b))
  | .xor => some (True, .int k (bits .xor k a b))
  | .andNot => some (True, .int k (bits .andNot k a b))
  | op => (cmpB op a b).map fun d => (True, d)
def byteB (op : BinOp) (a b : UInt8) : Option (Prop × D) :=
  match op with
  | .add => some (True, .u8 (a + b))
  | .sub => some (True, .u8 (a - b))
  | .mul => some (True, .u8 (a * b))
  | .and => some (True, .u8 (a &&& b))
  | .or => some (True, .u8 (a ||| b))
  | .xor => some (True, .u8 (a ^^^ b))
  | .andNot => some (True, .u8 (a &&& ~~~b))
  | .quo => some (0 < b.toNat, .u8 (a / b))
  | .rem => some (0 < b.toNat, .u8 (a % b))
  | .eql => some (True, .bool (decide (a = b)))
  | .neq => some (True, .bool (!decide (a = b)))
  | op => (cmpB op a.toNat b.toNat).map fun d => (True, d)
def wordB (op : BinOp) (a b : UInt32) : Option (Prop × D) :=
  match op with
  | .add => some (True, .u32 (a + b))
  | .sub => some (True, .u32 (a - b))
  | .mul => some (True, .u32 (a * b))
  | .and => some (True, .u32 (a &&& b))
  | .or => some (True, .u32 (a ||| b))
  | .xor => some (True, .u32 (a ^^^ b))
  | op => (cmpB op a.toNat b.toNat).map fun d => (True, d)
/-- The names are those that the answer hangs on. -/
def binD (H : Nat → Sh) (ty : Ty) (op : BinOp) (x y : D) : Option (Prop × D × List Nat) :=
  match x, y with
  | .int k a, .int k' b =>
    match op with
    | .shl => some (0 ≤ b ∧ inR k (a * 2 ^ min b.toNat k.bits), .int k (a * 2 ^ min b.toNat k.bits), [])
    | .shr => some (0 ≤ b, .int k (a / 2 ^ min b.toNat k.bits), [])
    | op => if k = k' then (intB op k a b).map fun r => (r.1, r.2, []) else none
  | .u8 a, .int _ b =>
    match op with
    | .shl => some (0 ≤ b, .u8 (shl8 a b.toNat), [])
    | .shr => some (0 ≤ b, .u8 (shr8 a b.toNat), [])
    | _ => none
  | .u32 a, .int _ b =>
    match op with
    | .shl => some (0 ≤ b, .u32 (shl32 a b.toNat), [])
    | .shr => some (0 ≤ b, .u32 (shr32 a b.toNat), [])
    | _ => none
  | .u8 a, .u8 b => (byteB op a b).map fun r => (r.1, r.2, [])
  | .u32 a, .u32 b => (wordB op a b).map fun r => (r.1, r.2, [])
  | .str a, .str b =>
    match op with
    | .add => some (a.length + b.length ≤ 9223372036854775807, .str (a ++ b), [])
    | .eql => some (True, .bool (decide (a = b)), [])
    | .neq => some (True, .bool (!decide (a = b)), [])
    | _ => none
  | .bool a, .bool b =>
    match ty, op with
    | .bool, .eql => some (True, .bool (a == b), [])
    | .bool, .neq => some (True, .bool (!(a == b)), [])
    | _, _ => none
  | .nilP, .nilP =>
    match ty, op with
    | .ptr _, .eql => some (True, .bool true, [])
    | .ptr _, .neq => some (True, .bool false, [])
    | _, _ => none
  | .nilS, .nilS =>
    match ty, op with
    | .slice _, .eql => some (True, .bool true, [])
    | .slice _, .neq => some (True, .bool false, [])
    | _, _ => none
  | .ptr o g _, .nilP =>
    match ty, op with
    | .ptr _, .eql => some (g = (H o).gen, .bool false, [o])
    | .ptr _, .neq => some (g = (H o).gen, .bool true, [o])
    | _, _ => none
  | .rop _ _, .nilP =>
    match ty, op with
    | .ptr _, .eql => some (True, .bool false, [])
    | .ptr _, .neq => some (True, .bool true, [])
    | _, _ => none
  | .rpf _ _ _ _ _, .nilP =>
    match ty, op with
    | .ptr _, .eql => some (True, .bool false, [])
    | .ptr _, .neq => some (True, .bool true, [])
    | _, _ => none
  | _, _ => none

section
variable {P : Program} {w : World} {S : Nat → Prop} {ρ : Nat → Pl} {H : Nat → Sh}
theorem inv_int {k : IntKind} {n : Int} {v : Value} {F : List Nat} (h : RV w S ρ H (.int k n) v F) : v = .int k n := by cases h; rfl
theorem inv_u8 {x : UInt8} {v : Value} {F : List Nat} (h : RV w S ρ H (.u8 x) v F) : v = u8 x := by cases h; rfl
theorem inv_u32 {x : UInt32} {v : Value} {F : List Nat} (h : RV w S ρ H (.u32 x) v F) : v = u32v x := by cases h; rfl
theorem inv_bool {b : Bool} {v : Value} {F : List Nat} (h : RV w S ρ H (.bool b) v F) : v = .bool b := by cases h; rfl
theorem inv_str {l : List UInt8} {v : Value} {F : List Nat} (h : RV w S ρ H (.str l) v F) : v = .string (str l) := by cases h; rfl
theorem inv_nilP {v : Value} {F : List Nat} (h : RV w S ρ H .nilP v F) : v = .pointer none := by cases h; rfl
theorem inv_nilS {v : Value} {F : List Nat} (h : RV w S ρ H .nilS v F) : v = .slice none 0 0 := by cases h; rfl
theorem inv_aggb {l : List UInt8} {v : Value} {F : List Nat} (h : RV w S ρ H (.aggb l) v F) : v = .agg (u8s l).toArray := by cases h; rfl
theorem inv_ptr {o g off : Nat} {v : Value} {F : List Nat} (h : RV w S ρ H (.ptr o g off) v F) (e : g = (H o).gen) : v = .pointer (some ⟨(ρ o).blk, (ρ o).base + off, none⟩) := by cases h with | ptr _ _ _ _ _ _ h => exact h e
theorem inv_sl {o g off len : Nat} {v : Value} {F : List Nat} (h : RV w S ρ H (.sl o g off len) v F) (e : g = (H o).gen) : SlAt (ρ o) (H o) off len v := by cases h with | sl _ _ _ _ _ _ _ h => exact h e
theorem bool_ite (b : Bool) : (if b then Value.bool true else Value.bool false) = .bool b := by cases b <;> rfl

theorem cmpB_ok {op : BinOp} {k : IntKind} {a b : Int} {d : D} (h : cmpB op a b = some d) (T : TypeId) : ∃ v, (binOp op T (.int k a) (.int k b)).run P w = .ok v w ∧ RV w S ρ H d v [] := by
  unfold cmpB at h
  split at h <;> first | (injection h with h; subst h) | (cases h; done)
  · exact ⟨_, by rw [binOp_eql]; rfl, by rw [show (a == b) = decide (a = b) from by rw [Bool.eq_iff_iff]; simp]; exact .bool _⟩
  · exact ⟨_, by rw [binOp_neq]; rfl, by rw [show (a != b) = !decide (a = b) from by rw [Bool.eq_iff_iff]; simp]; exact .bool _⟩
  · exact ⟨_, by rw [binOp_lss]; rfl, .bool _⟩
  · exact ⟨_, by rw [binOp_leq]; rfl, .bool _⟩
  · exact ⟨_, by rw [binOp_gtr]; rfl, .bool _⟩
  · exact ⟨_, by rw [binOp_geq]; rfl, .bool _⟩
theorem intB_ok {op : BinOp} {k : IntKind} {a b : Int} {g : Prop} {d : D} (h : intB op k a b = some (g, d)) (hg : g) (T : TypeId) : ∃ v, (binOp op T (.int k a) (.int k b)).run P w = .ok v w ∧ RV w S ρ H d v [] := by
  unfold intB at h
  split at h <;> try (injection h with h; injection h with h1 h2; subst h1; subst h2)
  · exact ⟨_, by rw [binOp_add]; rfl, by simp only [wrap_inR k _ hg]; exact .int _ _⟩
  · exact ⟨_, by rw [binOp_sub]; rfl, by simp only [wrap_inR k _ hg]; exact .int _ _⟩
  · exact ⟨_, by rw [binOp_mul]; rfl, by simp only [wrap_inR k _ hg]; exact .int _ _⟩
  · obtain ⟨h1, h2, h3⟩ := hg
    have hb : ¬ b = 0 := by omega
    have e : a.tdiv b = a / b := Int.tdiv_eq_ediv_of_nonneg h1
    exact ⟨.int k (a / b), by rw [binOp_quo]; simp only [Op.intDiv, if_neg hb, e, wrap_inR k _ h3]; rfl, .int _ _⟩
  · obtain ⟨h1, h2⟩ := hg
    have hb : ¬ b = 0 := by omega
    have e : a.tmod b = a % b := Int.tmod_eq_emod_of_nonneg h1
    exact ⟨.int k (a % b), by rw [binOp_rem]; simp only [Op.intDiv, if_neg hb, e]; rfl, .int _ _⟩
  · exact ⟨_, by rw [binOp_and]; rfl, .int _ _⟩
  · exact ⟨_, by rw [binOp_or]; rfl, .int _ _⟩
  · exact ⟨_, by rw [binOp_xor]; rfl, .int _ _⟩
  · exact ⟨_, by rw [binOp_andNot]; rfl, .int _ _⟩
  · rw [Option.map_eq_some_iff] at h
    obtain ⟨d', h1, h2⟩ := h
    injection h2 with h2 h3
    subst h3
    exact cmpB_ok h1 T
theorem byteB_ok {op : BinOp} {a b : UInt8} {g : Prop} {d : D} (h : byteB op a b = some (g, d)) (hg : g) (T : TypeId) : ∃ v, (binOp op T (u8 a) (u8 b)).run P w = .ok v w ∧ RV w S ρ H d v [] := by
  unfold byteB at h
  split at h <;> try (injection h with h; injection h with h1 h2; subst h1; subst h2)
  · exact ⟨_, by rw [bin_add8]; rfl, .u8 _⟩
  · exact ⟨_, by rw [bin_sub8]; rfl, .u8 _⟩
  · exact ⟨_, by rw [bin_mul8]; rfl, .u8 _⟩
  · exact ⟨_, by rw [bin_and8]; rfl, .u8 _⟩
  · exact ⟨_, by rw [bin_or8]; rfl, .u8 _⟩
  · exact ⟨_, by rw [bin_xor8]; rfl, .u8 _⟩
  · exact ⟨_, by rw [bin_andNot8]; rfl, .u8 _⟩
  · exact ⟨_, by rw [bin_quo8 _ _ _ hg]; rfl, .u8 _⟩
  · exact ⟨_, by rw [bin_rem8 _ _ _ hg]; rfl, .u8 _⟩
  · refine ⟨_, by unfold Proofs.YtabkpoklihkifaaDoor.u8; rw [binOp_eql]; rfl, ?_⟩
    have e : ((a.toNat : Int) == (b.toNat : Int)) = decide (a = b) := by
      have h1 : ((a.toNat : Int) = (b.toNat : Int)) ↔ a = b := ⟨fun h => UInt8.toNat_inj.1 (by omega), fun h => by rw [h]⟩
      rw [Bool.eq_iff_iff]; simp [h1]
    rw [e]
    exact .bool _
  · refine ⟨_, by unfold Proofs.YtabkpoklihkifaaDoor.u8; rw [binOp_neq]; rfl, ?_⟩
    have e : ((a.toNat : Int) != (b.toNat : Int)) = !decide (a = b) := by
      have h1 : ((a.toNat : Int) = (b.toNat : Int)) ↔ a = b := ⟨fun h => UInt8.toNat_inj.1 (by omega), fun h => by rw [h]⟩
      rw [Bool.eq_iff_iff]; simp [h1]
    rw [e]
    exact .bool _
  · rw [Option.map_eq_some_iff] at h
    obtain ⟨d', h1, h2⟩ := h
    injection h2 with h2 h3
    subst h3
    exact cmpB_ok h1 T
theorem wordB_ok {op : BinOp} {a b : UInt32} {g : Prop} {d : D} (h : wordB op a b = some (g, d)) (T : TypeId) : ∃ v, (binOp op T (u32v a) (u32v b)).run P w = .ok v w ∧ RV w S ρ H d v [] := by
  unfold wordB at h
  split at h <;> try (injection h with h; injection h with h1 h2; subst h1; subst h2)
  · exact ⟨_, by rw [bin_add32]; rfl, .u32 _⟩
  · exact ⟨_, by rw [bin_sub32]; rfl, .u32 _⟩
  · exact ⟨_, by rw [bin_mul32]; rfl, .u32 _⟩
  · exact ⟨_, by rw [bin_and32]; rfl, .u32 _⟩
  · exact ⟨_, by rw [bin_or32]; rfl, .u32 _⟩
  · exact ⟨_, by rw [bin_xor32]; rfl, .u32 _⟩
  · rw [Option.map_eq_some_iff] at h
    obtain ⟨d', h1, h2⟩ := h
    injection h2 with h2 h3
    subst h3
    exact cmpB_ok h1 T
theorem bin_str (op : BinOp) (T : TypeId) (a b : ByteArray) : (binOp op T (.string a) (.string b)).run P w = (Op.stringOp op a b).run P w := by cases op <;> rfl

theorem under_ptr {t e : TypeId} (h : P.underlying t = some (.pointer e)) : P.underlying t = some (.pointer (P.pointee t)) := by
  simp [Program.pointee, h]

theorem binD_ok {op : BinOp} {T : TypeId} {x y : D} {g : Prop} {d : D} {R : List Nat} (h : binD H (tiOf P T).ty op x y = some (g, d, R)) (hg : g) {vx vy : Value} (hx : RV w S ρ H x vx []) (hy : RV w S ρ H y vy []) :
    ∃ v, (binOp op T vx vy).run P w = .ok v w ∧ RV w S ρ H d v [] := by
  unfold binD at h
  split at h
  · obtain rfl := inv_int hx
    obtain rfl := inv_int hy
    split at h
    · injection h with h; injection h with h1 h2; injection h2 with h2 h3; subst h1; subst h2
      obtain ⟨h1, h2⟩ := hg
      rename_i k a k' b _
      refine ⟨.int k (a * 2 ^ min b.toNat k.bits), ?_, .int _ _⟩
      have : ¬ b < 0 := by omega
      rw [binOp_shl]
      simp only [Op.shift, if_neg this]
      rw [wrap_inR k _ h2]
      rfl
    · injection h with h; injection h with h1 h2; injection h2 with h2 h3; subst h1; subst h2
      rename_i k a k' b _
      refine ⟨.int k (a / 2 ^ min b.toNat k.bits), ?_, .int _ _⟩
      have : ¬ b < 0 := by omega
      rw [binOp_shr]
      simp only [Op.shift, if_neg this]
      rw [Int.fdiv_eq_ediv_of_nonneg _ (Int.le_of_lt (Int.pow_pos (by decide)))]
      rfl
    · split at h
      · rename_i e
        subst e
        rw [Option.map_eq_some_iff] at h
        obtain ⟨⟨g', d'⟩, h1, h2⟩ := h
        injection h2 with h2 h3
        injection h3 with h3 h4
        subst h2; subst h3
        exact intB_ok h1 hg T
      · cases h
  · obtain rfl := inv_u8 hx
    obtain rfl := inv_int hy
    split at h <;> first | (cases h; done) | (injection h with h; injection h with h1 h2; injection h2 with h2 h3; subst h1; subst h2)
    · exact ⟨_, by rw [bin_shl8 _ _ _ _ hg]; rfl, .u8 _⟩
    · exact ⟨_, by rw [bin_shr8 _ _ _ _ hg]; rfl, .u8 _⟩
  · obtain rfl := inv_u32 hx
    obtain rfl := inv_int hy
    split at h <;> first | (cases h; done) | (injection h with h; injection h with h1 h2; injection h2 with h2 h3; subst h1; subst h2)
    · exact ⟨_, by rw [bin_shl32 _ _ _ _ hg]; rfl, .u32 _⟩
    · exact ⟨_, by rw [bin_shr32 _ _ _ _ hg]; rfl, .u32 _⟩
  · obtain rfl := inv_u8 hx
    obtain rfl := inv_u8 hy
    rw [Option.map_eq_some_iff] at h
    obtain ⟨⟨g', d'⟩, h1, h2⟩ := h
    injection h2 with h2 h3
    injection h3 with h3 h4
    subst h3
    exact byteB_ok h1 (by first | exact hg | (subst h2; exact hg)) T
  · obtain rfl := inv_u32 hx
    obtain rfl := inv_u32 hy
    rw [Option.map_eq_some_iff] at h
    obtain ⟨⟨g', d'⟩, h1, h2⟩ := h
    injection h2 with h2 h3
    injection h3 with h3 h4
    subst h3
    exact wordB_ok h1 T
  · obtain rfl := inv_str hx
    obtain rfl := inv_str hy
    rename_i a b
    have ea : (Proofs.YtabkpoklihkifaaDoor.str a).toList = a := str_toL a
    have eb : (Proofs.YtabkpoklihkifaaDoor.str b).toList = b := str_toL b
    split at h <;> first | (cases h; done) | (injection h with h; injection h with h1 h2; injection h2 with h2 h3; subst h1; subst h2)
    · refine ⟨_, ?_, .str _⟩
      rw [bin_str, ← str_append]
      have : ¬ (((Proofs.YtabkpoklihkifaaDoor.str a).size + (Proofs.YtabkpoklihkifaaDoor.str b).size : Nat) : Int) > IntKind.i64.max := by
        rw [str_size, str_size]
        simp [IntKind.max, IntKind.signed, IntKind.bits]
        omega
      simp only [Op.stringOp, if_neg this]
      rfl
    · exact ⟨_, by rw [bin_str]; simp only [Op.stringOp]; rfl, by rw [ea, eb, show (a == b) = decide (a = b) from by rw [Bool.eq_iff_iff]; simp]; exact .bool _⟩
    · exact ⟨_, by rw [bin_str]; simp only [Op.stringOp]; rfl, by rw [ea, eb, show (a == b) = decide (a = b) from by rw [Bool.eq_iff_iff]; simp]; exact .bool _⟩
  · obtain rfl := inv_bool hx
    obtain rfl := inv_bool hy
    split at h <;> first | (cases h; done) | (injection h with h; injection h with h1 h2; injection h2 with h2 h3; subst h1; subst h2)
    · rename_i e
      exact ⟨_, run_eql_bool w T _ _ (ti_bool e), .bool _⟩
    · rename_i e
      exact ⟨_, run_neq_bool w T _ _ (ti_bool e), .bool _⟩
  · obtain rfl := inv_nilP hx
    obtain rfl := inv_nilP hy
    split at h <;> first | (cases h; done) | (injection h with h; injection h with h1 h2; injection h2 with h2 h3; subst h1; subst h2)
    · rename_i e
      exact ⟨.bool true, run_eql_pointer_nil w T _ (under_ptr (ti_ptr e)), .bool _⟩
    · rename_i e
      exact ⟨.bool false, run_neq_pointer_nil w T _ (under_ptr (ti_ptr e)), .bool _⟩
  · obtain rfl := inv_nilS hx
    obtain rfl := inv_nilS hy
    split at h <;> first | (cases h; done) | (injection h with h; injection h with h1 h2; injection h2 with h2 h3; subst h1; subst h2)
    · rename_i e
      exact ⟨.bool true, Lib.run_eql_slice_nil w T _ _ _ _ _ _ (ti_slice e), .bool _⟩
    · rename_i e
      exact ⟨.bool false, run_neq_slice_nil w T _ _ _ _ (ti_slice e), .bool _⟩
  · obtain rfl := inv_nilP hy
    split at h <;> first | (cases h; done) | (injection h with h; injection h with h1 h2; injection h2 with h2 h3; subst h1; subst h2)
    · rename_i e
      obtain rfl := inv_ptr hx hg
      exact ⟨.bool false, run_eql_pointer_nil w T _ (under_ptr (ti_ptr e)), .bool _⟩
    · rename_i e
      obtain rfl := inv_ptr hx hg
      exact ⟨.bool true, run_neq_pointer_nil w T _ (under_ptr (ti_ptr e)), .bool _⟩
  · obtain rfl := inv_nilP hy
    cases hx
    split at h <;> first | (cases h; done) | (injection h with h; injection h with h1 h2; injection h2 with h2 h3; subst h1; subst h2)
    · rename_i e
      exact ⟨.bool false, run_eql_pointer_nil w T _ (under_ptr (ti_ptr e)), .bool _⟩
    · rename_i e
      exact ⟨.bool true, run_neq_pointer_nil w T _ (under_ptr (ti_ptr e)), .bool _⟩
  · obtain rfl := inv_nilP hy
    cases hx
    split at h <;> first | (cases h; done) | (injection h with h; injection h with h1 h2; injection h2 with h2 h3; subst h1; subst h2)
    · rename_i e
      exact ⟨.bool false, run_eql_pointer_nil w T _ (under_ptr (ti_ptr e)), .bool _⟩
    · rename_i e
      exact ⟨.bool true, run_neq_pointer_nil w T _ (under_ptr (ti_ptr e)), .bool _⟩
  · cases h
end
end Go.Proofs.YtabkpoklihkifaaDoor

/- Operations that read memory or reckon addresses: what they read as. Over any program. -/
namespace Go.Proofs.YtabkpoklihkifaaDoor
open Go Go.RowKit
set_option linter.unusedVariables false
set_option linter.unusedSimpArgs false

/-- A value of one cell that owns nothing. -/
def D.sc : D → Bool
  | .bool _ | .int _ _ | .u8 _ | .u32 _ | .str _ | .nilP | .nilS | .nilF | .fn _ | .ptr _ _ _ | .sl _ _ _ _ | .rob _ | .ros _ _ _ | .rop _ _ | .rof _ _ _ | .rpf _ _ _ _ _ | .rpb _ _ => true
  | _ => false
def D.isU8 : D → Bool
  | .u8 _ => true
  | _ => false
def D.toU8 : D → UInt8
  | .u8 x => x
  | _ => 0
/-- Is it an array of bytes? -/
def isBA (Ti : Nat → TI) (t : TypeId) : Bool :=
  match (Ti t).ty with
  | .arr _ e => match (Ti e).ty with | .int .u8 => true | _ => false
  | _ => false
def Ty.agg : Ty → Bool
  | .arr _ _ | .struct _ => true
  | _ => false
def Ty.one : Ty → Bool
  | .bool | .int _ | .str | .slice _ | .ptr _ => true
  | _ => false
def Cont.at_ (c : Cont) (i : Nat) : D :=
  match c with
  | .bytes l => .u8 (gb l i)
  | .cells cs => cs.getD i .bot
/-- Some cells as one value. -/
def aggD (ba : Bool) (cs : List D) : D := if ba then .aggb (cs.map D.toU8) else .agg cs

section
variable {w : World} {S : Nat → Prop} {ρ : Nat → Pl} {H : Nat → Sh}
theorem RV.one_ {d : D} {v : Value} {F : List Nat} (h : RV w S ρ H d v F) (hd : d.sc = true) : F = [] ∧ v.oneCell' = true := by
  cases h <;> first | exact ⟨rfl, rfl⟩ | exact ⟨rfl, by assumption⟩ | exact ⟨rfl, isPt_one (by assumption)⟩ | cases hd
theorem isU8_of {d : D} (h : d.isU8 = true) : d = .u8 d.toU8 := by cases d <;> first | rfl | cases h
theorem all_u8_of {cs : List D} (h : cs.all D.isU8 = true) : cs = (cs.map D.toU8).map D.u8 := by
  induction cs with
  | nil => rfl
  | cons c r ih =>
    simp only [List.all_cons, Bool.and_eq_true] at h
    rw [List.map_cons, List.map_cons, ← ih h.2, ← isU8_of h.1]
theorem u8_isU8 (l : List UInt8) : (l.map D.u8).all D.isU8 = true := by simp [D.isU8]
theorem u8_sc (l : List UInt8) : (l.map D.u8).all D.sc = true := by simp [D.sc]
theorem map_toU8 (l : List UInt8) : (l.map D.u8).map D.toU8 = l := by
  induction l with
  | nil => rfl
  | cons x r ih => rw [List.map_cons, List.map_cons, ih]; rfl
/-- Values that are bytes. -/
theorem vs_u8 {l : List UInt8} {vs : List Value} (hl : vs.length = l.length) (h : ∀ (i : Nat) (c : D) (u : Value), (l.map D.u8)[i]? = some c → vs[i]? = some u → RV w S ρ H c u []) : vs = u8s l := by
  apply List.ext_getElem?
  intro i
  rw [u8s_get]
  rcases Nat.lt_or_ge i l.length with hi | hi
  · have hv : i < vs.length := by omega
    have := h i (.u8 l[i]) vs[i] (by simp [hi]) (List.getElem?_eq_getElem hv)
    rw [List.getElem?_eq_getElem hv, List.getElem?_eq_getElem hi, inv_u8 this]
    rfl
  · rw [List.getElem?_eq_none (by omega), List.getElem?_eq_none hi]; rfl
/-- Cells that were read, as one value. -/
theorem rv_aggD {ba : Bool} {cs : List D} {vs : List Value} (hl : vs.length = cs.length) (hb : ba = true → cs.all D.isU8 = true) (h : ∀ (i : Nat) (c : D) (u : Value), cs[i]? = some c → vs[i]? = some u → RV w S ρ H c u []) : RV w S ρ H (aggD ba cs) (.agg vs.toArray) [] := by
  unfold aggD
  split
  · rename_i e
    have e1 := all_u8_of (hb e)
    generalize cs.map D.toU8 = l at *
    subst e1
    rw [vs_u8 (by simpa using hl) h]
    exact .aggb _
  · exact RV.agg0 hl h
theorem flat_nil_of {Fs : List (List Nat)} (h : Fs.flatten = []) {i : Nat} {f : List Nat} (hf : Fs[i]? = some f) : f = [] := by
  rcases f with _ | ⟨a, f⟩
  · rfl
  · have := mem_flat_of hf (List.mem_cons_self)
    rw [h] at this
    cases this
theorem inv_agg {cs : List D} {v : Value} (h : RV w S ρ H (.agg cs) v []) : ∃ vs : List Value, v = .agg vs.toArray ∧ vs.length = cs.length ∧ ∀ (i : Nat) (c : D) (u : Value), cs[i]? = some c → vs[i]? = some u → RV w S ρ H c u [] := by
  cases h with
  | agg _ vs Fs F hv hf hF hr =>
    refine ⟨vs, rfl, hv, fun i c u h1 h2 => ?_⟩
    have hi : i < Fs.length := by rw [hf]; exact (List.getElem?_eq_some_iff.1 h1).1
    have h3 := List.getElem?_eq_getElem hi
    have := hr i c u _ h1 h2 h3
    rwa [flat_nil_of hF.symm h3] at this
theorem inv_tup {cs : List D} {v : Value} (h : RV w S ρ H (.tup cs) v []) : ∃ vs : List Value, v = .tuple vs.toArray ∧ vs.length = cs.length ∧ ∀ (i : Nat) (c : D) (u : Value), cs[i]? = some c → vs[i]? = some u → RV w S ρ H c u [] := by
  cases h with
  | tup _ vs Fs F hv hf hF hr =>
    refine ⟨vs, rfl, hv, fun i c u h1 h2 => ?_⟩
    have hi : i < Fs.length := by rw [hf]; exact (List.getElem?_eq_some_iff.1 h1).1
    have h3 := List.getElem?_eq_getElem hi
    have := hr i c u _ h1 h2 h3
    rwa [flat_nil_of hF.symm h3] at this
end

section
variable {C : Ctx} {s : St} {ρ : Nat → Pl} {S : Nat → Prop} {Φ : Nat → List Nat} {w : World}

/-- What lies in a live object's cell. -/
theorem RepW.cell (h : RepW C s ρ S Φ w) {o : Nat} {c : Cont} (ho : (s.ob o).ct = some c) {i : Nat} (hi : i < c.len) (hs : (c.at_ i).sc = true) :
    ∃ u, w.cell? ⟨(ρ o).blk, (ρ o).base + i, none⟩ = some u ∧ RV w S ρ s.sh (c.at_ i) u [] := by
  obtain ⟨h1, h2⟩ := h.ob o c ho
  rcases h2 with ⟨h0, _⟩ | ⟨cur, E, fz, Fs, hh, hz, hsz, hb, hF, hc⟩
  · omega
  · have hlt : (ρ o).base + i < cur.size := by omega
    refine ⟨cur[(ρ o).base + i], ?_, ?_⟩
    · rw [cell_of_row w _ _ cur E fz hh]
      exact Array.getElem?_eq_getElem hlt
    · cases c with
      | bytes l =>
        have h3 := hc.2 i hi
        rw [Array.getElem?_eq_getElem hlt] at h3
        injection h3 with h3
        show RV w S ρ s.sh (.u8 (gb l i)) _ []
        rw [h3]
        exact .u8 _
      | cells cs =>
        have hi' : i < cs.length := hi
        have hf : i < Fs.length := by rw [hc.1]; exact hi'
        have e : cs[i]? = some (Cont.at_ (.cells cs) i) := by
          show cs[i]? = some (cs.getD i .bot)
          rw [List.getD_eq_getElem?_getD, List.getElem?_eq_getElem hi']
          rfl
        have := hc.2 i _ _ _ e (Array.getElem?_eq_getElem hlt) (List.getElem?_eq_getElem hf)
        rwa [(this.one_ hs).1] at this
end

/-! Bytes that a slice reads as. -/
def byt (O : Nat → Ob) (d : D) : Option (Prop × List UInt8 × List Nat) :=
  match d with
  | .rob l => some (True, l, [])
  | .nilS => some (True, [], [])
  | .sl o g off len =>
    match (O o).ct with
    | some (.bytes l) => some (g = (O o).sh.gen ∧ (O o).sh.esz = 1, (l.drop off).take len, [o])
    | _ => none
  | _ => none

section
variable {C : Ctx} {s : St} {ρ : Nat → Pl} {S : Nat → Prop} {Φ : Nat → List Nat} {w : World}
theorem byt_ok (h : RepW C s ρ S Φ w) {d : D} {g : Prop} {l : List UInt8} {R : List Nat} (e : byt s.ob d = some (g, l, R)) (hg : g) {v : Value} (hr : RV w S ρ s.sh d v []) :
    ∃ A n cap, v = .slice A n cap ∧ Rd w w.heap.size A n cap l := by
  unfold byt at e
  split at e
  · injection e with e; injection e with e1 e2; injection e2 with e2 e3; subst e2
    cases hr with
    | rob _ A n cap hr => exact ⟨A, n, cap, rfl, hr.rd fun b hb => (h.s1 b hb).1⟩
  · injection e with e; injection e with e1 e2; injection e2 with e2 e3; subst e2
    cases hr
    exact ⟨none, 0, 0, rfl, (Rd.nil_ w).up (Nat.zero_le _) (Nat.le_refl _)⟩
  · rename_i o g' off len
    split at e
    · rename_i l' ho
      injection e with e; injection e with e1 e2; injection e2 with e2 e3; subst e1; subst e2
      obtain ⟨A, cap, rfl, h1, h2, h3, h4⟩ := inv_sl hr hg.1
      have hes : (s.sh o).esz = 1 := hg.2
      rw [hes, Nat.mul_one] at h3
      have hcl : (s.sh o).clen = l'.length := (h.ob o _ ho).1
      refine ⟨A, len, cap, rfl, ⟨by rw [List.length_take, List.length_drop]; omega, h1, h2, Nat.le_refl _, fun hn => ?_⟩⟩
      rcases h4 with ⟨h4, _⟩ | ⟨h4, _⟩
      · omega
      · refine ⟨_, _, h4, ?_, fun i hi => ?_⟩
        · obtain ⟨u, hu, _⟩ := h.cell ho (i := 0) (by show 0 < l'.length; omega) rfl
          exact World.block_lt_of_cell? w _ hu
        · obtain ⟨u, hu, hr2⟩ := h.cell ho (i := off + i) (by show _ < l'.length; omega) rfl
          rw [Nat.add_assoc, hu]
          have := inv_u8 hr2
          rw [this]
          congr 2
          simp only [gb, List.getD_eq_getElem?_getD, List.getElem?_take, if_pos hi, List.getElem?_drop]
    · cases e
  · cases e
/-- Bytes that stand among other cells. -/
def bytc (O : Nat → Ob) (d : D) : Option (Prop × List UInt8 × List Nat) :=
  match d with
  | .sl o g off len =>
    match (O o).ct with
    | some (.cells cs) => some (g = (O o).sh.gen ∧ (O o).sh.esz = 1 ∧ ((cs.drop off).take len).all D.isU8 = true, ((cs.drop off).take len).map D.toU8, [o])
    | _ => none
  | _ => none
theorem bytc_ok (h : RepW C s ρ S Φ w) {d : D} {g : Prop} {l : List UInt8} {R : List Nat} (e : bytc s.ob d = some (g, l, R)) (hg : g) {v : Value} (hr : RV w S ρ s.sh d v []) :
    ∃ A n cap, v = .slice A n cap ∧ Rd w w.heap.size A n cap l := by
  unfold bytc at e
  split at e
  · rename_i o g' off len
    split at e
    · rename_i cs' ho
      injection e with e; injection e with e1 e2; injection e2 with e2 e3; subst e1; subst e2
      obtain ⟨A, cap, rfl, h1, h2, h3, h4⟩ := inv_sl hr hg.1
      have hes : (s.sh o).esz = 1 := hg.2.1
      have hall := hg.2.2
      rw [hes, Nat.mul_one] at h3
      have hcl : (s.sh o).clen = cs'.length := (h.ob o _ ho).1
      refine ⟨A, len, cap, rfl, ⟨by rw [List.length_map, List.length_take, List.length_drop]; omega, h1, h2, Nat.le_refl _, fun hn => ?_⟩⟩
      have hget : ∀ i, i < len → ∃ d, ((cs'.drop off).take len)[i]? = some d ∧ cs'[off + i]? = some d ∧ d = .u8 d.toU8 := fun i hi => by
        have hlt : off + i < cs'.length := by omega
        refine ⟨cs'[off + i], ?_, List.getElem?_eq_getElem hlt, ?_⟩
        · rw [List.getElem?_take, if_pos hi, List.getElem?_drop, List.getElem?_eq_getElem hlt]
        · refine isU8_of (List.all_eq_true.1 hall _ (List.mem_of_getElem? (i := i) ?_))
          rw [List.getElem?_take, if_pos hi, List.getElem?_drop, List.getElem?_eq_getElem hlt]
      have hcell : ∀ i, i < len → w.cell? ⟨(ρ o).blk, (ρ o).base + (off + i), none⟩ = some (u8 (gb (((cs'.drop off).take len).map D.toU8) i)) := fun i hi => by
        obtain ⟨d, q1, q2, q3⟩ := hget i hi
        have hat : Cont.at_ (.cells cs') (off + i) = d := by
          show cs'.getD (off + i) .bot = d
          rw [List.getD_eq_getElem?_getD, q2]; rfl
        obtain ⟨u, hu, hr2⟩ := h.cell ho (i := off + i) (by show _ < cs'.length; omega) (by rw [hat, q3]; rfl)
        rw [hat, q3] at hr2
        rw [hu, inv_u8 hr2]
        congr 2
        simp only [gb, List.getD_eq_getElem?_getD, List.getElem?_map, q1]
        rfl
      rcases h4 with ⟨h4, _⟩ | ⟨h4, _⟩
      · omega
      · refine ⟨_, _, h4, ?_, fun i hi => ?_⟩
        · exact World.block_lt_of_cell? w _ (hcell 0 hn)
        · rw [Nat.add_assoc]
          exact hcell i hi
    · cases e
  · cases e
end

/-! Loads. -/
def ldD (Ti : Nat → TI) (O : Nat → Ob) (t : TypeId) (d : D) : Option (Prop × D × List Nat) :=
  match d with
  | .ptr o g off =>
    match (O o).ct with
    | some (.bytes l) =>
      if (Ti t).ty.one then some (g = (O o).sh.gen ∧ off < l.length, .u8 (gb l off), [o])
      else if isBA Ti t then some (g = (O o).sh.gen ∧ off + (Ti t).sz ≤ l.length, .aggb ((l.drop off).take (Ti t).sz), [o])
      else none
    | some (.cells cs) =>
      if (Ti t).ty.one then some (g = (O o).sh.gen ∧ off < cs.length ∧ (cs.getD off .bot).sc = true, cs.getD off .bot, [o])
      else if (Ti t).ty.agg then some (g = (O o).sh.gen ∧ off + (Ti t).sz ≤ cs.length ∧ ((cs.drop off).take (Ti t).sz).all D.sc = true ∧ (isBA Ti t = true → ((cs.drop off).take (Ti t).sz).all D.isU8 = true),
        aggD (isBA Ti t) ((cs.drop off).take (Ti t).sz), [o])
      else none
    | none => none
  | .rop off cs =>
    if (Ti t).ty.one then some (off < cs.length, cs.getD off .bot, [])
    else if (Ti t).ty.agg then some (off + (Ti t).sz ≤ cs.length ∧ (isBA Ti t = true → ((cs.drop off).take (Ti t).sz).all D.isU8 = true), aggD (isBA Ti t) ((cs.drop off).take (Ti t).sz), [])
    else none
  | .rpf k j s n f =>
    if (Ti t).ty.one then some (k < n ∧ j < s, f k j, [])
    else if (Ti t).ty.agg then some (k < n ∧ j + (Ti t).sz ≤ s ∧ (isBA Ti t = true → ((List.range (Ti t).sz).map fun i => f k (j + i)).all D.isU8 = true), aggD (isBA Ti t) ((List.range (Ti t).sz).map fun i => f k (j + i)), [])
    else none
  | .rpb k l =>
    if (Ti t).ty.one then some (k < l.length, .u8 (gb l k), [])
    else if isBA Ti t then some (k + (Ti t).sz ≤ l.length, .aggb ((l.drop k).take (Ti t).sz), [])
    else none
  | _ => none

section
variable {P : Program} {w : World}
theorem run_isAgg_one {t : TypeId} (h : (tiOf P t).ty.one = true) : (isAgg t).run P w = .ok false w := by
  rcases e : (tiOf P t).ty with _ | _ | k | _ | x | ⟨n, x⟩ | fs | x <;> rw [e] at h <;> first | (cases h; done) | skip
  · simp [isAgg, run_underlying (ti_bool e)]
  · simp [isAgg, run_underlying (ti_int e)]
  · simp [isAgg, run_underlying (ti_str e)]
  · simp [isAgg, run_underlying (ti_slice e)]
  · simp [isAgg, run_underlying (ti_ptr e)]
theorem run_isAgg_agg {t : TypeId} (h : (tiOf P t).ty.agg = true) : (isAgg t).run P w = .ok true w := by
  rcases e : (tiOf P t).ty with _ | _ | k | _ | x | ⟨n, x⟩ | fs | x <;> rw [e] at h <;> first | (cases h; done) | skip
  · simp [isAgg, run_underlying (ti_arr e)]
  · obtain ⟨fds, e2, _⟩ := ti_struct e
    simp [isAgg, run_underlying e2]
theorem isBA_agg {t : TypeId} (h : isBA (tiOf P) t = true) : (tiOf P t).ty.agg = true := by
  unfold isBA at h
  split at h
  · rename_i e; rw [e]; rfl
  · cases h
theorem run_sz {t : TypeId} (h : (tiOf P t).ty ≠ .none) : (sizeOf t).run P w = .ok (tiOf P t).sz w := by
  obtain ⟨i, hi, h1, _⟩ := ti_info h
  exact run_sizeOf hi h1
theorem agg_ne {t : Ty} (h : t.agg = true) : t ≠ .none := by rintro rfl; cases h
theorem one_ne {t : Ty} (h : t.one = true) : t ≠ .none := by rintro rfl; cases h
theorem run_load_one {t : TypeId} (h : (tiOf P t).ty.one = true) {b o : Nat} {u : Value} (hc : w.cell? ⟨b, o, none⟩ = some u) : (Instr.loadAt t (.pointer (some ⟨b, o, none⟩))).run P w = .ok u w := by
  simp [Instr.loadAt, Instr.sureAddr, loadVar, run_isAgg_one h, run_load, hc]
theorem run_load_agg {t : TypeId} (h : (tiOf P t).ty.agg = true) {b o : Nat} {us : List Value} (hl : us.length = (tiOf P t).sz) (hc : ∀ i u, us[i]? = some u → w.cell? ⟨b, o + i, none⟩ = some u) : (Instr.loadAt t (.pointer (some ⟨b, o, none⟩))).run P w = .ok (.agg us.toArray) w := by
  have hr := run_loadCells_list (P := P) (w := w) ⟨b, o, none⟩ us (fun j v hv => by rw [add_lit]; exact hc j v hv)
  rw [hl] at hr
  simp [Instr.loadAt, Instr.sureAddr, loadVar, run_isAgg_agg h, run_sz (agg_ne h), hr]
end

section
variable {C : Ctx} {s : St} {ρ : Nat → Pl} {S : Nat → Prop} {Φ : Nat → List Nat} {w : World}
theorem getD_some {cs : List D} {i : Nat} (h : i < cs.length) : cs[i]? = some (cs.getD i .bot) := by
  rw [List.getD_eq_getElem?_getD, List.getElem?_eq_getElem h]; rfl
theorem drop_take_get {α : Type} {cs : List α} {off n i : Nat} {c : α} (h : ((cs.drop off).take n)[i]? = some c) : cs[off + i]? = some c := by
  rw [List.getElem?_take] at h
  split at h
  · rwa [List.getElem?_drop] at h
  · cases h
/-- A list of values that are given one by one. -/
theorem list_of {Q : Nat → Value → Prop} : ∀ (n : Nat), (∀ i, i < n → ∃ u, Q i u) → ∃ us : List Value, us.length = n ∧ ∀ i u, us[i]? = some u → Q i u
  | 0, _ => ⟨[], rfl, fun i u h => by simp at h⟩
  | n + 1, h => by
    obtain ⟨us, h1, h2⟩ := list_of n (fun i hi => h i (by omega))
    obtain ⟨u, hu⟩ := h n (by omega)
    refine ⟨us ++ [u], by simp [h1], fun i v hv => ?_⟩
    rw [List.getElem?_append] at hv
    split at hv
    · exact h2 i v hv
    · rename_i hlt
      have hi : i = n := by
        have := (List.getElem?_eq_some_iff.1 hv).1
        simp at this
        omega
      subst hi
      rw [h1, Nat.sub_self] at hv
      injection hv with hv
      subst hv
      exact hu

theorem ldD_ok (h : RepW C s ρ S Φ w) {t : TypeId} {x : D} {g : Prop} {d : D} {R : List Nat} (e : ldD (tiOf C.P) s.ob t x = some (g, d, R)) (hg : g) {v : Value} (hr : RV w S ρ s.sh x v []) :
    ∃ v', (Instr.loadAt t v).run C.P w = .ok v' w ∧ RV w S ρ s.sh d v' [] := by
  unfold ldD at e
  split at e
  · rename_i o g' off
    split at e
    · rename_i l ho
      split at e
      · rename_i h1
        injection e with e; injection e with e1 e2; injection e2 with e2 e3; subst e1; subst e2
        obtain rfl := inv_ptr hr hg.1
        obtain ⟨u, hu, hr2⟩ := h.cell ho (i := off) hg.2 rfl
        exact ⟨u, run_load_one h1 hu, hr2⟩
      · split at e
        · rename_i hb
          injection e with e; injection e with e1 e2; injection e2 with e2 e3; subst e1; subst e2
          obtain rfl := inv_ptr hr hg.1
          have h2 := hg.2
          refine ⟨.agg (u8s ((l.drop off).take (tiOf C.P t).sz)).toArray, run_load_agg (isBA_agg hb) (by rw [u8s_length, List.length_take, List.length_drop]; omega) (fun i u hu => ?_), .aggb _⟩
          rw [u8s_get] at hu
          rcases hx : ((l.drop off).take (tiOf C.P t).sz)[i]? with _ | x
          · rw [hx] at hu; cases hu
          · rw [hx] at hu
            injection hu with hu
            subst hu
            have hx2 := drop_take_get hx
            obtain ⟨u, hu, hr2⟩ := h.cell ho (i := off + i) (List.getElem?_eq_some_iff.1 hx2).1 rfl
            rw [Nat.add_assoc, hu, inv_u8 hr2, gb_get hx2]
        · cases e
    · rename_i cs ho
      split at e
      · rename_i h1
        injection e with e; injection e with e1 e2; injection e2 with e2 e3; subst e1; subst e2
        obtain rfl := inv_ptr hr hg.1
        obtain ⟨u, hu, hr2⟩ := h.cell ho (i := off) hg.2.1 hg.2.2
        exact ⟨u, run_load_one h1 hu, hr2⟩
      · split at e
        · rename_i h1
          injection e with e; injection e with e1 e2; injection e2 with e2 e3; subst e1; subst e2
          obtain ⟨hg1, hg2, hg3, hg4⟩ := hg
          obtain rfl := inv_ptr hr hg1
          have hlen : ((cs.drop off).take (tiOf C.P t).sz).length = (tiOf C.P t).sz := by rw [List.length_take, List.length_drop]; omega
          obtain ⟨us, hu1, hu2⟩ := list_of (Q := fun i u => w.cell? ⟨(ρ o).blk, (ρ o).base + off + i, none⟩ = some u ∧ RV w S ρ s.sh (cs.getD (off + i) .bot) u []) (tiOf C.P t).sz (fun i hi => by
            have hc : ((cs.drop off).take (tiOf C.P t).sz)[i]? = some (cs.getD (off + i) .bot) := by
              rw [List.getElem?_take, if_pos hi, List.getElem?_drop]
              exact getD_some (by omega)
            have hsc := List.all_eq_true.1 hg3 _ (List.mem_of_getElem? hc)
            obtain ⟨u, hu, hr2⟩ := h.cell ho (i := off + i) (by show _ < cs.length; omega) hsc
            exact ⟨u, by rw [Nat.add_assoc]; exact hu, hr2⟩)
          refine ⟨.agg us.toArray, run_load_agg h1 hu1 (fun i u hu => (hu2 i u hu).1), rv_aggD (by omega) hg4 (fun i c u h1 h2 => ?_)⟩
          have := (hu2 i u h2).2
          have h3 := drop_take_get h1
          rw [List.getD_eq_getElem?_getD, h3] at this
          exact this
        · cases e
    · cases e
  · rename_i off cs
    cases hr with
    | rop _ _ b base us hb hc hr =>
      split at e
      · rename_i h1
        injection e with e; injection e with e1 e2; injection e2 with e2 e3; subst e1; subst e2
        exact ⟨_, run_load_one h1 (hc off _ (getD_some hg)), hr off _ (getD_some hg)⟩
      · split at e
        · rename_i h1
          injection e with e; injection e with e1 e2; injection e2 with e2 e3; subst e1; subst e2
          have hlen : ((cs.drop off).take (tiOf C.P t).sz).length = (tiOf C.P t).sz := by rw [List.length_take, List.length_drop]; omega
          refine ⟨.agg ((List.range (tiOf C.P t).sz).map fun i => us (off + i)).toArray, run_load_agg h1 (by simp) (fun i u hu => ?_), rv_aggD (by simp; omega) hg.2 (fun i c u h1 h2 => ?_)⟩
          · rw [List.getElem?_map] at hu
            have hi : i < (tiOf C.P t).sz := by
              rcases Nat.lt_or_ge i (tiOf C.P t).sz with hlt | hge
              · exact hlt
              · rw [List.getElem?_eq_none (by simpa using hge)] at hu; cases hu
            simp [hi] at hu
            subst hu
            rw [Nat.add_assoc]
            exact hc (off + i) _ (getD_some (by omega))
          · have h3 := drop_take_get h1
            have hi : i < (tiOf C.P t).sz := by rw [← hlen]; exact (List.getElem?_eq_some_iff.1 h1).1
            simp [hi] at h2
            subst h2
            exact hr _ _ h3
        · cases e
  · rename_i k j sn n f
    cases hr with
    | rpf _ _ _ _ _ b base us hb hp hc hr =>
      split at e
      · rename_i h1
        injection e with e; injection e with e1 e2; injection e2 with e2 e3; subst e1; subst e2
        exact ⟨_, run_load_one h1 (hc k j hg.1 hg.2), hr k j hg.1 hg.2⟩
      · split at e
        · rename_i h1
          injection e with e; injection e with e1 e2; injection e2 with e2 e3; subst e1; subst e2
          obtain ⟨g1, g2, g3⟩ := hg
          refine ⟨.agg ((List.range (tiOf C.P t).sz).map fun i => us k (j + i)).toArray, run_load_agg h1 (by simp) (fun i u hu => ?_), rv_aggD (by simp) g3 (fun i c u h1 h2 => ?_)⟩
          · rw [List.getElem?_map] at hu
            have hi : i < (tiOf C.P t).sz := by
              rcases Nat.lt_or_ge i (tiOf C.P t).sz with hlt | hge
              · exact hlt
              · rw [List.getElem?_eq_none (by simpa using hge)] at hu; cases hu
            simp [hi] at hu
            subst hu
            rw [Nat.add_assoc, Nat.add_assoc]
            exact hc k (j + i) g1 (by omega)
          · have hi : i < (tiOf C.P t).sz := by
              rcases Nat.lt_or_ge i (tiOf C.P t).sz with hlt | hge
              · exact hlt
              · rw [List.getElem?_eq_none (by simpa using hge)] at h1; cases h1
            simp [hi] at h1 h2
            subst h1; subst h2
            exact hr k (j + i) g1 (by omega)
        · cases e
  · rename_i k l
    cases hr with
    | rpb _ _ b base hb hc =>
      split at e
      · rename_i h1
        injection e with e; injection e with e1 e2; injection e2 with e2 e3; subst e1; subst e2
        exact ⟨_, run_load_one h1 (hc k hg), .u8 _⟩
      · split at e
        · rename_i hb2
          injection e with e; injection e with e1 e2; injection e2 with e2 e3; subst e1; subst e2
          refine ⟨.agg (u8s ((l.drop k).take (tiOf C.P t).sz)).toArray, run_load_agg (isBA_agg hb2) (by rw [u8s_length, List.length_take, List.length_drop]; omega) (fun i u hu => ?_), .aggb _⟩
          rw [u8s_get] at hu
          rcases hx : ((l.drop k).take (tiOf C.P t).sz)[i]? with _ | x
          · rw [hx] at hu; cases hu
          · rw [hx] at hu
            injection hu with hu
            subst hu
            have hx2 := drop_take_get hx
            rw [Nat.add_assoc, hc (k + i) (List.getElem?_eq_some_iff.1 hx2).1, gb_get hx2]
        · cases e
  · cases e
end
end Go.Proofs.YtabkpoklihkifaaDoor

/- Addresses, parts, slices, conversions and lengths: what they read as. Over any program. -/
namespace Go.Proofs.YtabkpoklihkifaaDoor
open Go Go.RowKit
set_option linter.unusedVariables false
set_option linter.unusedSimpArgs false

def Ty.elem : Ty → Nat
  | .slice e | .arr _ e | .ptr e => e
  | _ => 0
/-- 'x[i]', its address. -/
def ixaI (Ti : Nat → TI) (O : Nat → Ob) (t : TypeId) (x y : D) : Option (Prop × D × List Nat) :=
  match y with
  | .int _ i =>
    match (Ti t).ty, x with
    | .slice e, .sl o g off len =>
        some ((g = (O o).sh.gen ∧ (O o).sh.esz = (Ti e).sz ∧ ((Ti e).ty.one || (Ti e).ty.agg) = true ∧ 0 ≤ i ∧ i < len), .ptr o g (off + i.toNat * (Ti e).sz), [o])
    | .slice e, .rob l => some (((Ti e).sz = 1 ∧ ((Ti e).ty.one || (Ti e).ty.agg) = true ∧ 0 ≤ i ∧ i < l.length), .rpb i.toNat l, [])
    | .slice e, .ros s n cs => some ((s = (Ti e).sz ∧ ((Ti e).ty.one || (Ti e).ty.agg) = true ∧ 0 ≤ i ∧ i < n), .rop (i.toNat * (Ti e).sz) cs, [])
    | .arr n e, .ptr o g off => some ((g = (O o).sh.gen ∧ ((Ti e).ty.one || (Ti e).ty.agg) = true ∧ 0 ≤ i ∧ i < n), .ptr o g (off + i.toNat * (Ti e).sz), [o])
    | .slice e, .rof s n f => some ((s = (Ti e).sz ∧ ((Ti e).ty.one || (Ti e).ty.agg) = true ∧ 0 ≤ i ∧ i < n), .rpf i.toNat 0 s n f, [])
    | .arr n e, .rpf k j s m f => match Nat.beq s (Ti e).sz with
      | true => some ((s = (Ti e).sz ∧ ((Ti e).ty.one || (Ti e).ty.agg) = true ∧ 0 ≤ i ∧ i < n), .rpf (k + i.toNat) j s m f, [])
      | false => some ((((Ti e).ty.one || (Ti e).ty.agg) = true ∧ 0 ≤ i ∧ i < n), .rpf k (j + i.toNat * (Ti e).sz) s m f, [])
    | .arr n e, .rpb k l => some (((Ti e).sz = 1 ∧ ((Ti e).ty.one || (Ti e).ty.agg) = true ∧ 0 ≤ i ∧ i < n), .rpb (k + i.toNat) l, [])
    | .arr n e, .rop off cs => some ((((Ti e).ty.one || (Ti e).ty.agg) = true ∧ 0 ≤ i ∧ i < n), .rop (off + i.toNat * (Ti e).sz) cs, [])
    | _, _ => none
  | _ => none
/-- 'x.f', its address. -/
def fdaD (Ti : Nat → TI) (O : Nat → Ob) (t : TypeId) (x : D) (f : Nat) : Option (Prop × D × List Nat) :=
  match (Ti t).ty with
  | .struct fs =>
    match fs[f]? with
    | some (fo, ft) =>
      match x with
      | .ptr o g off => some ((Ti ft).sz ≠ 0, .ptr o g (off + fo), [])
      | .rop off cs => some ((Ti ft).sz ≠ 0, .rop (off + fo) cs, [])
      | .rpf k j s n f => some ((Ti ft).sz ≠ 0, .rpf k (j + fo) s n f, [])
      | _ => none
    | none => none
  | _ => none
/-- A part of a value. -/
def partD (Ti : Nat → TI) (t : TypeId) (cs : List D) (off : Nat) : Option (Prop × D) :=
  if (Ti t).ty.one then some (off < cs.length, cs.getD off .bot)
  else if (Ti t).ty.agg then some (off + (Ti t).sz ≤ cs.length ∧ (isBA Ti t = true → ((cs.drop off).take (Ti t).sz).all D.isU8 = true), aggD (isBA Ti t) ((cs.drop off).take (Ti t).sz))
  else none
def fldD (Ti : Nat → TI) (t : TypeId) (x : D) (f : Nat) : Option (Prop × D) :=
  match (Ti t).ty with
  | .struct fs =>
    match fs[f]? with
    | some (fo, ft) =>
      match x with
      | .agg cs => partD Ti ft cs fo
      | _ => none
    | none => none
  | _ => none
def idxI (Ti : Nat → TI) (t : TypeId) (x y : D) : Option (Prop × D) :=
  match y with
  | .int _ i =>
    match (Ti t).ty, x with
    | .str, .str l => some (0 ≤ i ∧ i < l.length, .u8 (gb l i.toNat))
    | .arr n e, .aggb l => some ((l.length = n ∧ (Ti e).sz = 1 ∧ (Ti e).ty.one = true ∧ 0 ≤ i ∧ i < n), .u8 (gb l i.toNat))
    | .arr n e, .agg cs => (partD Ti e cs (i.toNat * (Ti e).sz)).map fun r => ((((Ti e).ty.one || (Ti e).ty.agg) = true ∧ 0 ≤ i ∧ i < n ∧ r.1), r.2)
    | _, _ => none
  | _ => none

section
variable {P : Program} {w : World}
theorem ne_of_or {t : Ty} (h : (t.one || t.agg) = true) : t ≠ .none := by
  rintro rfl
  cases h
theorem ixa_slice {t e : TypeId} (ht : (tiOf P t).ty = .slice e) (he : (tiOf P e).ty ≠ .none) {a : Addr} {len cap : Nat} {k : IntKind} {i : Int} (h0 : 0 ≤ i) (h1 : i < len) :
    (Instr.indexAt t (.slice (some a) len cap) (.int k i)).run P w = .ok (.pointer (some (a.add (i.toNat * (tiOf P e).sz)))) w := by
  simp [Instr.indexAt, asIntOf, run_underlying (ti_slice ht), run_sz he, h0, h1]
theorem ixa_arr {t e : TypeId} {n : Nat} (ht : (tiOf P t).ty = .arr n e) (he : (tiOf P e).ty ≠ .none) {a : Addr} {k : IntKind} {i : Int} (h0 : 0 ≤ i) (h1 : i < n) :
    (Instr.indexAt t (.pointer (some a)) (.int k i)).run P w = .ok (.pointer (some (a.add (i.toNat * (tiOf P e).sz)))) w := by
  simp [Instr.indexAt, asIntOf, run_underlying (ti_arr ht), run_sz he, h0, h1, Instr.sureAddr]
theorem run_part_one {t : TypeId} (h : (tiOf P t).ty.one = true) {cs : Array Value} {off : Nat} {u : Value} (hu : cs[off]? = some u) : (part t cs off).run P w = .ok u w := by
  simp [part, run_isAgg_one h, hu]
theorem run_part_agg {t : TypeId} (h : (tiOf P t).ty.agg = true) {cs : Array Value} {off : Nat} : (part t cs off).run P w = .ok (.agg (cs.extract off (off + (tiOf P t).sz))) w := by
  simp [part, run_isAgg_agg h, run_sz (agg_ne h)]
end

section
variable {C : Ctx} {s : St} {ρ : Nat → Pl} {S : Nat → Prop} {Φ : Nat → List Nat} {w : World}
theorem rv_ptr (o g off : Nat) (e : g = (s.sh o).gen) : RV w S ρ s.sh (.ptr o g off) (.pointer (some ⟨(ρ o).blk, (ρ o).base + off, none⟩)) [] :=
  .ptr o g off _ rfl (Nat.le_of_eq e) fun _ => rfl

theorem ixaI_ok (h : RepW C s ρ S Φ w) {t : TypeId} {x y : D} {g : Prop} {d : D} {R : List Nat} (e : ixaI (tiOf C.P) s.ob t x y = some (g, d, R)) (hg : g) {vx vy : Value} (hx : RV w S ρ s.sh x vx []) (hy : RV w S ρ s.sh y vy []) :
    ∃ v', (Instr.indexAt t vx vy).run C.P w = .ok v' w ∧ RV w S ρ s.sh d v' [] := by
  unfold ixaI at e
  split at e
  · rename_i k i
    obtain rfl := inv_int hy
    split at e
    · rename_i el o g' off len ht
      injection e with e; injection e with e1 e2; injection e2 with e2 e3; subst e1; subst e2
      obtain ⟨g1, g2, g3, g4, g5⟩ := hg
      obtain ⟨A, cap, rfl, h1, h2, h3, h4⟩ := inv_sl hx g1
      rcases h4 with ⟨h4, _⟩ | ⟨rfl, _⟩
      · omega
      · refine ⟨_, ixa_slice ht (ne_of_or g3) g4 g5, ?_⟩
        rw [add_lit, Nat.add_assoc]
        exact rv_ptr o g' _ g1
    · rename_i el l ht
      injection e with e; injection e with e1 e2; injection e2 with e2 e3; subst e1; subst e2
      obtain ⟨g1, g2, g4, g5⟩ := hg
      cases hx with
      | rob _ A n cap hr =>
        have hl := hr.len
        obtain ⟨b, off, rfl, hb, hc⟩ := hr.cells (by omega)
        refine ⟨_, ixa_slice ht (ne_of_or g2) g4 (by omega), ?_⟩
        rw [add_lit, g1, Nat.mul_one]
        exact .rpb i.toNat l b off hb (fun j hj => hc j (by omega))
    · rename_i el s' n cs ht
      injection e with e; injection e with e1 e2; injection e2 with e2 e3; subst e1; subst e2
      obtain ⟨g1, g2, g4, g5⟩ := hg
      cases hx with
      | ros _ _ _ A cap b off us hl hn hm hA hc hr =>
        obtain ⟨rfl, hb⟩ := hA (by omega)
        refine ⟨_, ixa_slice ht (ne_of_or g2) g4 g5, ?_⟩
        rw [add_lit]
        exact .rop _ cs b off us hb (hc (by omega)) hr
    · rename_i n el o g' off ht
      injection e with e; injection e with e1 e2; injection e2 with e2 e3; subst e1; subst e2
      obtain ⟨g1, g3, g4, g5⟩ := hg
      obtain rfl := inv_ptr hx g1
      refine ⟨_, ixa_arr ht (ne_of_or g3) g4 g5, ?_⟩
      rw [add_lit, Nat.add_assoc]
      exact rv_ptr o g' _ g1
    · rename_i el s' n f ht
      injection e with e; injection e with e1 e2; injection e2 with e2 e3; subst e1; subst e2
      obtain ⟨g1, g2, g4, g5⟩ := hg
      cases hx with
      | rof _ _ _ A cap b off us hn hm hp hA hc hr =>
        obtain ⟨rfl, hb⟩ := hA (by omega)
        refine ⟨_, ixa_slice ht (ne_of_or g2) g4 g5, ?_⟩
        rw [add_lit, ← g1]
        exact .rpf i.toNat 0 s' n f b off us hb hp hc hr
    · rename_i n el k j s' m f ht
      split at e
      · injection e with e; injection e with e1 e2; injection e2 with e2 e3; subst e1; subst e2
        obtain ⟨g1, g3, g4, g5⟩ := hg
        cases hx with
        | rpf _ _ _ _ _ b base us hb hp hc hr =>
          refine ⟨_, ixa_arr ht (ne_of_or g3) g4 g5, ?_⟩
          rw [add_lit, ← g1, show base + (k * s' + j) + i.toNat * s' = base + ((k + i.toNat) * s' + j) by rw [Nat.add_mul]; omega]
          exact .rpf (k + i.toNat) j s' m f b base us hb hp hc hr
      · injection e with e; injection e with e1 e2; injection e2 with e2 e3; subst e1; subst e2
        obtain ⟨g3, g4, g5⟩ := hg
        cases hx with
        | rpf _ _ _ _ _ b base us hb hp hc hr =>
          refine ⟨_, ixa_arr ht (ne_of_or g3) g4 g5, ?_⟩
          rw [add_lit, show base + (k * s' + j) + i.toNat * (tiOf C.P el).sz = base + (k * s' + (j + i.toNat * (tiOf C.P el).sz)) by omega]
          exact .rpf k _ s' m f b base us hb hp hc hr
    · rename_i n el k l ht
      injection e with e; injection e with e1 e2; injection e2 with e2 e3; subst e1; subst e2
      obtain ⟨g1, g3, g4, g5⟩ := hg
      cases hx with
      | rpb _ _ b base hb hc =>
        refine ⟨_, ixa_arr ht (ne_of_or g3) g4 g5, ?_⟩
        rw [add_lit, g1, Nat.mul_one, Nat.add_assoc]
        exact .rpb (k + i.toNat) l b base hb hc
    · rename_i n el off cs ht
      injection e with e; injection e with e1 e2; injection e2 with e2 e3; subst e1; subst e2
      obtain ⟨g3, g4, g5⟩ := hg
      cases hx with
      | rop _ _ b base us hb hc hr =>
        refine ⟨_, ixa_arr ht (ne_of_or g3) g4 g5, ?_⟩
        rw [add_lit, Nat.add_assoc]
        exact .rop _ cs b base us hb hc hr
    · cases e
  · cases e

theorem fd_get {fds : Array Field} {fs : List (Nat × Nat)} {f fo ft : Nat} (h : fds.toList.map (fun f => (f.offset, f.type)) = fs) (hf : fs[f]? = some (fo, ft)) : ∃ fd, fds[f]? = some fd ∧ fd.offset = fo ∧ fd.type = ft := by
  rw [← h, List.getElem?_map] at hf
  rcases hx : fds.toList[f]? with _ | fd
  · rw [hx] at hf; cases hf
  · rw [hx] at hf
    injection hf with hf
    injection hf with h1 h2
    exact ⟨fd, by rw [← Array.getElem?_toList]; exact hx, h1, h2⟩
theorem sz_ne {P : Program} {t : TypeId} (h : (tiOf P t).sz ≠ 0) : ∃ i, P.info? t = some i ∧ i.size = (tiOf P t).sz := by
  unfold tiOf at *
  split at h
  · rename_i i hi; exact ⟨i, hi, rfl⟩
  · exact absurd rfl h
theorem fdaD_ok (h : RepW C s ρ S Φ w) {t : TypeId} {x : D} {f : Nat} {g : Prop} {d : D} {R : List Nat} (e : fdaD (tiOf C.P) s.ob t x f = some (g, d, R)) (hg : g) {vx : Value} (hx : RV w S ρ s.sh x vx []) :
    ∃ v', (Instr.fieldAt t vx f).run C.P w = .ok v' w ∧ RV w S ρ s.sh d v' [] := by
  unfold fdaD at e
  split at e
  · rename_i fs ht
    obtain ⟨fds, hu, hfs⟩ := ti_struct ht
    split at e
    · rename_i fo ft hf
      obtain ⟨fd, hfd, rfl, rfl⟩ := fd_get hfs hf
      split at e
      · rename_i o g' off
        injection e with e; injection e with e1 e2; injection e2 with e2 e3; subst e1; subst e2
        cases hx with
        | ptr _ _ _ _ h1 hgl hp =>
          obtain ⟨q, rfl⟩ := isPt_ex h1
          obtain ⟨i, hi, hi2⟩ := sz_ne hg
          have hz : ¬ (tiOf C.P fd.type).sz = 0 := hg
          refine ⟨.pointer (some (q.add fd.offset)), ?_, .ptr _ _ _ _ rfl hgl (fun e => ?_)⟩
          · simp [Instr.fieldAt, run_underlying hu, hfd, Instr.sureAddr, fieldPlace, run_sizeOf hi hi2, hz]
          · have := hp e
            injection this with this
            injection this with this
            subst this
            rw [add_lit, Nat.add_assoc]
      · rename_i off cs
        injection e with e; injection e with e1 e2; injection e2 with e2 e3; subst e1; subst e2
        cases hx with
        | rop _ _ b base us hb hc hr =>
          obtain ⟨i, hi, hi2⟩ := sz_ne hg
          have hz : ¬ (tiOf C.P fd.type).sz = 0 := hg
          refine ⟨.pointer (some ⟨b, base + (off + fd.offset), none⟩), ?_, .rop _ cs b base us hb hc hr⟩
          simp [Instr.fieldAt, run_underlying hu, hfd, Instr.sureAddr, fieldPlace, run_sizeOf hi hi2, hz, add_lit, Nat.add_assoc]
      · rename_i k j s' n f
        injection e with e; injection e with e1 e2; injection e2 with e2 e3; subst e1; subst e2
        cases hx with
        | rpf _ _ _ _ _ b base us hb hp hc hr =>
          obtain ⟨i, hi, hi2⟩ := sz_ne hg
          have hz : ¬ (tiOf C.P fd.type).sz = 0 := hg
          refine ⟨.pointer (some ⟨b, base + (k * s' + (j + fd.offset)), none⟩), ?_, .rpf k _ s' n f b base us hb hp hc hr⟩
          simp [Instr.fieldAt, run_underlying hu, hfd, Instr.sureAddr, fieldPlace, run_sizeOf hi hi2, hz, add_lit, Nat.add_assoc]
      · cases e
    · cases e
  · cases e

theorem partD_ok {P : Program} {t : TypeId} {cs : List D} {off : Nat} {g : Prop} {d : D} {H : Nat → Sh} (e : partD (tiOf P) t cs off = some (g, d)) (hg : g) {vs : List Value} (hl : vs.length = cs.length) (hr : ∀ (i : Nat) (c : D) (u : Value), cs[i]? = some c → vs[i]? = some u → RV w S ρ H c u []) :
    ∃ v', (part t vs.toArray off).run P w = .ok v' w ∧ RV w S ρ H d v' [] := by
  unfold partD at e
  split at e
  · rename_i h1
    injection e with e; injection e with e1 e2; subst e1; subst e2
    have hv : off < vs.length := by omega
    exact ⟨vs[off], run_part_one h1 (by simp [hv]), hr off _ _ (getD_some hg) (List.getElem?_eq_getElem hv)⟩
  · split at e
    · rename_i h1
      injection e with e; injection e with e1 e2; subst e1; subst e2
      refine ⟨_, run_part_agg h1, ?_⟩
      have ee : vs.toArray.extract off (off + (tiOf P t).sz) = ((vs.drop off).take (tiOf P t).sz).toArray := by
        simp [List.drop_take]
      rw [ee]
      refine rv_aggD (by simp; omega) hg.2 (fun i c u h1 h2 => hr (off + i) c u (drop_take_get h1) (drop_take_get h2))
    · cases e
theorem fldD_ok {H : Nat → Sh} {P : Program} {t : TypeId} {x : D} {f : Nat} {g : Prop} {d : D} (e : fldD (tiOf P) t x f = some (g, d)) (hg : g) {vx : Value} (hx : RV w S ρ H x vx []) :
    ∃ v', (Instr.field t vx f).run P w = .ok v' w ∧ RV w S ρ H d v' [] := by
  unfold fldD at e
  split at e
  · rename_i fs ht
    obtain ⟨fds, hu, hfs⟩ := ti_struct ht
    split at e
    · rename_i fo ft hf
      obtain ⟨fd, hfd, rfl, rfl⟩ := fd_get hfs hf
      split at e
      · obtain ⟨vs, rfl, hl, hr⟩ := inv_agg hx
        obtain ⟨v', h1, h2⟩ := partD_ok e hg hl hr
        exact ⟨v', by simp [Instr.field, run_underlying hu, hfd, asAgg, h1], h2⟩
      · cases e
    · cases e
  · cases e
theorem idxI_ok {H : Nat → Sh} {P : Program} {t : TypeId} {x y : D} {g : Prop} {d : D} (e : idxI (tiOf P) t x y = some (g, d)) (hg : g) {vx vy : Value} (hx : RV w S ρ H x vx []) (hy : RV w S ρ H y vy []) :
    ∃ v', (Instr.index t vx vy).run P w = .ok v' w ∧ RV w S ρ H d v' [] := by
  unfold idxI at e
  split at e
  · rename_i k i
    obtain rfl := inv_int hy
    split at e
    · rename_i l ht
      injection e with e; injection e with e1 e2; subst e1; subst e2
      obtain rfl := inv_str hx
      exact ⟨_, run_index_str t l k i (ti_str ht) hg.1 hg.2, .u8 _⟩
    · rename_i n el l ht
      injection e with e; injection e with e1 e2; subst e1; subst e2
      obtain ⟨g1, g2, g3, g4, g5⟩ := hg
      obtain rfl := inv_aggb hx
      refine ⟨u8 (gb l i.toNat), ?_, .u8 _⟩
      have hi : (u8s l).toArray[i.toNat]? = some (u8 (gb l i.toNat)) := by
        rw [List.getElem?_toArray, u8s_get, gb_of (by omega)]
        rfl
      have hp := run_part_one (P := P) (w := w) g3 hi
      simp only [Instr.index, Sem.run_bind, asIntOf, Sem.run_pure, Result.andThen_ok, run_underlying (ti_arr ht), if_pos (show 0 ≤ i ∧ i < (n : Int) from ⟨g4, g5⟩), run_sz (one_ne g3), g2, Nat.mul_one, hp]
    · rename_i n el cs ht
      rw [Option.map_eq_some_iff] at e
      obtain ⟨⟨g', d'⟩, e1, e2⟩ := e
      injection e2 with e2 e3
      subst e2; subst e3
      obtain ⟨g1, g2, g3, g4⟩ := hg
      obtain ⟨vs, rfl, hl, hr⟩ := inv_agg hx
      obtain ⟨v', h1, h2⟩ := partD_ok e1 g4 hl hr
      refine ⟨v', ?_, h2⟩
      simp only [Instr.index, Sem.run_bind, asIntOf, Sem.run_pure, Result.andThen_ok, run_underlying (ti_arr ht), if_pos (show 0 ≤ i ∧ i < (n : Int) from ⟨g2, g3⟩), run_sz (ne_of_or g1), h1]
    · cases e
  · cases e
end
/-- An index may be a byte. -/
def yI : D → D
  | .u8 b => .int .u8 b.toNat
  | d => d
theorem yI_rv {w : World} {S : Nat → Prop} {ρ : Nat → Pl} {H : Nat → Sh} {d : D} {v : Value} (h : RV w S ρ H d v []) : RV w S ρ H (yI d) v [] := by
  unfold yI
  split
  · obtain rfl := inv_u8 h
    exact .int _ _
  · exact h
def ixaD (Ti : Nat → TI) (O : Nat → Ob) (t : TypeId) (x y : D) : Option (Prop × D × List Nat) := ixaI Ti O t x (yI y)
def idxD (Ti : Nat → TI) (t : TypeId) (x y : D) : Option (Prop × D) := idxI Ti t x (yI y)
theorem ixaD_ok {C : Ctx} {s : St} {ρ : Nat → Pl} {S : Nat → Prop} {Φ : Nat → List Nat} {w : World} (h : RepW C s ρ S Φ w) {t : TypeId} {x y : D} {g : Prop} {d : D} {R : List Nat} (e : ixaD (tiOf C.P) s.ob t x y = some (g, d, R)) (hg : g) {vx vy : Value} (hx : RV w S ρ s.sh x vx []) (hy : RV w S ρ s.sh y vy []) :
    ∃ v', (Instr.indexAt t vx vy).run C.P w = .ok v' w ∧ RV w S ρ s.sh d v' [] := ixaI_ok h e hg hx (yI_rv hy)
theorem idxD_ok {P : Program} {w : World} {S : Nat → Prop} {ρ : Nat → Pl} {H : Nat → Sh} {t : TypeId} {x y : D} {g : Prop} {d : D} (e : idxD (tiOf P) t x y = some (g, d)) (hg : g) {vx vy : Value} (hx : RV w S ρ H x vx []) (hy : RV w S ρ H y vy []) :
    ∃ v', (Instr.index t vx vy).run P w = .ok v' w ∧ RV w S ρ H d v' [] := idxI_ok e hg hx (yI_rv hy)
end Go.Proofs.YtabkpoklihkifaaDoor

/- Slices, conversions between numbers, lengths, choices, equality of arrays of bytes: what they read as. Over any program. -/
namespace Go.Proofs.YtabkpoklihkifaaDoor
open Go Go.RowKit
set_option linter.unusedVariables false
set_option linter.unusedSimpArgs false

def bnd : Option D → Option (Option Int)
  | none => some none
  | some (.int _ i) => some (some i)
  | _ => none
def lowI (l : Option Int) : Int := l.getD 0
def highI (h : Option Int) (n : Nat) : Int := h.getD n
def cutL {α : Type} (l h : Option Int) (s : Nat) (xs : List α) : List α :=
  match l, h with
  | none, none => xs
  | some a, none => xs.drop (a.toNat * s)
  | none, some b => xs.take (b.toNat * s)
  | some a, some b => (xs.take (b.toNat * s)).drop (a.toNat * s)
def cutB (l h : Option Int) (xs : List UInt8) : List UInt8 :=
  match l, h with
  | none, none => xs
  | some a, none => xs.drop a.toNat
  | none, some b => xs.take b.toNat
  | some a, some b => (xs.take b.toNat).drop a.toNat
def addO (l : Option Int) (off s : Nat) : Nat :=
  match l with
  | none => off
  | some i => off + i.toNat * s
def lenO (l h : Option Int) (n : Nat) : Nat :=
  match l, h with
  | none, none => n
  | some a, none => n - a.toNat
  | none, some b => b.toNat
  | some a, some b => b.toNat - a.toNat
def shO (l : Option Int) (f : Nat → Nat → D) : Nat → Nat → D :=
  match l with
  | none => f
  | some i => fun a b => f (i.toNat + a) b
theorem shO_eq (l : Option Int) (f : Nat → Nat → D) (a b : Nat) : shO l f a b = f ((lowI l).toNat + a) b := by
  cases l <;> simp [shO, lowI]
def okB (l h : Option Int) (n : Nat) : Prop :=
  match l, h with
  | none, none => True
  | some a, none => 0 ≤ a ∧ a ≤ n
  | none, some b => 0 ≤ b ∧ b ≤ n
  | some a, some b => 0 ≤ a ∧ a ≤ b ∧ b ≤ n
theorem okB_all {l h : Option Int} {n : Nat} (hb : okB l h n) : 0 ≤ lowI l ∧ lowI l ≤ highI h n ∧ highI h n ≤ n := by
  unfold okB at hb
  rcases l with _ | a <;> rcases h with _ | b <;> simp [lowI, highI] at hb ⊢ <;> omega
theorem cutB_eq (l h : Option Int) (xs : List UInt8) : cutB l h xs = (xs.take (highI h xs.length).toNat).drop (lowI l).toNat := by
  rcases l with _ | a <;> rcases h with _ | b <;> simp [cutB, lowI, highI]
theorem cutL_eq {α : Type} (l h : Option Int) (s n : Nat) (xs : List α) (hn : xs.length = n * s) : cutL l h s xs = (xs.take ((highI h n).toNat * s)).drop ((lowI l).toNat * s) := by
  rcases l with _ | a <;> rcases h with _ | b <;> simp [cutL, lowI, highI, ← hn]
theorem addO_eq (l : Option Int) (off s : Nat) : addO l off s = off + (lowI l).toNat * s := by
  rcases l with _ | a <;> simp [addO, lowI]
theorem lenO_eq (l h : Option Int) (n : Nat) : lenO l h n = (highI h n).toNat - (lowI l).toNat := by
  rcases l with _ | a <;> rcases h with _ | b <;> simp [lenO, lowI, highI]

/-- 'x[lo:hi]' -/
def slcD (Ti : Nat → TI) (O : Nat → Ob) (t : TypeId) (x : D) (lo hi : Option D) : Option (Prop × D × List Nat) :=
  match bnd lo, bnd hi with
  | some l, some h =>
    match (Ti t).ty, x with
    | .str, .str b => some (okB l h b.length, .str (cutB l h b), [])
    | .slice _, .rob b => some (okB l h b.length, .rob (cutB l h b), [])
    | .slice _, .nilS => some (okB l h 0, .nilS, [])
    | .slice e, .ros s n cs => some ((s = (Ti e).sz ∧ (Ti e).sz ≠ 0 ∧ okB l h n), .ros s (lenO l h n) (cutL l h s cs), [])
    | .slice e, .rof s n f => some ((s = (Ti e).sz ∧ (Ti e).sz ≠ 0 ∧ okB l h n), .rof s (lenO l h n) (shO l f), [])
    | .slice e, .sl o g off len => some ((g = (O o).sh.gen ∧ (O o).sh.esz = (Ti e).sz ∧ (Ti e).sz ≠ 0 ∧ okB l h len), .sl o g (addO l off (Ti e).sz) (lenO l h len), [o])
    | .arr n e, .ptr o g off => some ((g = (O o).sh.gen ∧ (O o).sh.esz = (Ti e).sz ∧ (Ti e).sz ≠ 0 ∧ n ≤ maxLen ∧ (O o).ct.isSome = true ∧ off + n * (Ti e).sz ≤ (O o).sh.clen ∧ okB l h n), .sl o g (addO l off (Ti e).sz) (lenO l h n), [o])
    | _, _ => none
  | _, _ => none

section
variable {P : Program} {w : World} {S : Nat → Prop} {ρ : Nat → Pl} {H : Nat → Sh}
/-- A bound, as a value. -/
def Bd (lo : Option Value) (l : Option Int) : Prop := (lo = none ∧ l = none) ∨ ∃ k i, lo = some (.int k i) ∧ l = some i
theorem bnd_ok {x : Option D} {l : Option Int} (h : bnd x = some l) {v : Option Value} (hv : ∀ d, x = some d → ∃ u, v = some u ∧ RV w S ρ H d u []) (hn : x = none → v = none) : Bd v l := by
  unfold bnd at h
  split at h
  · injection h with h; exact .inl ⟨hn rfl, h.symm⟩
  · injection h with h
    obtain ⟨u, rfl, hu⟩ := hv _ rfl
    exact .inr ⟨_, _, by rw [inv_int hu], h.symm⟩
  · cases h
theorem run_sb {k : IntKind} {i : Int} {y : Nat} {c : BoundsCode} (h0 : 0 ≤ i) (h1 : i ≤ y) : (Instr.sliceBound (.int k i) y c).run P w = .ok i.toNat w := run_sliceBound w k i y c h0 h1
theorem run_bds {b : Bool} {len cap : Nat} {lo hi : Option Value} {l h : Option Int} (h1 : Bd lo l) (h2 : Bd hi h) (hb : 0 ≤ lowI l ∧ lowI l ≤ highI h len ∧ highI h len ≤ cap) :
    (Instr.sliceBounds b len cap lo hi none).run P w = .ok ((lowI l).toNat, (highI h len).toNat, cap) w := by
  rcases h1 with ⟨rfl, rfl⟩ | ⟨k, i, rfl, rfl⟩ <;> rcases h2 with ⟨rfl, rfl⟩ | ⟨k', j, rfl, rfl⟩ <;> simp only [lowI, highI, Option.getD_none, Option.getD_some] at hb ⊢
  · simp [Instr.sliceBounds]
  · simp [Instr.sliceBounds, run_sb hb.2.1 hb.2.2]
  · simp [Instr.sliceBounds, run_sb hb.1 hb.2.1]
  · have hj : ((j.toNat : Nat) : Int) = j := by omega
    simp [Instr.sliceBounds, run_sb (show 0 ≤ j by omega) hb.2.2, run_sb hb.1 (show i ≤ ((j.toNat : Nat) : Int) by omega)]
theorem sat_slice {t e : TypeId} (ht : (tiOf P t).ty = .slice e) {A : Option Addr} {len cap : Nat} {lo hi : Option Value} {l h : Option Int} (h1 : Bd lo l) (h2 : Bd hi h) (hb : okB l h len) (hc : len ≤ cap) {s : Nat} (hs : (sizeOf e).run P w = .ok s w) :
    (Instr.sliceAt t (.slice A len cap) lo hi none).run P w = .ok (.slice (if cap = (lowI l).toNat then A else A.map (·.add ((lowI l).toNat * s))) ((highI h len).toNat - (lowI l).toNat) (cap - (lowI l).toNat)) w := by
  have hb' := okB_all hb
  simp [Instr.sliceAt, Instr.slice, run_underlying (ti_slice ht), run_bds h1 h2 (show 0 ≤ lowI l ∧ lowI l ≤ highI h len ∧ highI h len ≤ cap by omega), hs]
theorem sat_str {t : TypeId} (ht : (tiOf P t).ty = .str) {b : List UInt8} {lo hi : Option Value} {l h : Option Int} (h1 : Bd lo l) (h2 : Bd hi h) (hb : okB l h b.length) :
    (Instr.sliceAt t (.string (str b)) lo hi none).run P w = .ok (.string (str (cutB l h b))) w := by
  have hb' := okB_all hb
  have hz : (str b).size = b.length := rfl
  simp [Instr.sliceAt, Instr.slice, run_underlying (ti_str ht), hz, run_bds h1 h2 hb', str_extract, cutB_eq]
theorem sat_arr {t e : TypeId} {n : Nat} (ht : (tiOf P t).ty = .arr n e) {a : Addr} {lo hi : Option Value} {l h : Option Int} (h1 : Bd lo l) (h2 : Bd hi h) (hb : okB l h n) {s : Nat} (hs : (sizeOf e).run P w = .ok s w) :
    (Instr.sliceAt t (.pointer (some a)) lo hi none).run P w = .ok (.slice (some (if n = (lowI l).toNat then a else a.add ((lowI l).toNat * s))) ((highI h n).toNat - (lowI l).toNat) (n - (lowI l).toNat)) w := by
  have hb' := okB_all hb
  simp [Instr.sliceAt, run_underlying (ti_arr ht), Instr.sureAddr, run_bds h1 h2 hb', hs]
end

section
variable {C : Ctx} {s : St} {ρ : Nat → Pl} {S : Nat → Prop} {Φ : Nat → List Nat} {w : World}
theorem run_sz' {P : Program} {t : TypeId} (h : (tiOf P t).sz ≠ 0) : (sizeOf t).run P w = .ok (tiOf P t).sz w := by
  obtain ⟨i, hi, h1⟩ := sz_ne h
  exact run_sizeOf hi h1
theorem slcD_ok (h : RepW C s ρ S Φ w) {t : TypeId} {x : D} {lo hi : Option D} {g : Prop} {d : D} {R : List Nat} (e : slcD (tiOf C.P) s.ob t x lo hi = some (g, d, R)) (hg : g) {vx : Value} {vlo vhi : Option Value} (hx : RV w S ρ s.sh x vx [])
    (hlo : ∀ d, lo = some d → ∃ u, vlo = some u ∧ RV w S ρ s.sh d u []) (hlo' : lo = none → vlo = none) (hhi : ∀ d, hi = some d → ∃ u, vhi = some u ∧ RV w S ρ s.sh d u []) (hhi' : hi = none → vhi = none)
    (hsz : ∀ el, (tiOf C.P t).ty = .slice el → ∃ n, (sizeOf el).run C.P w = .ok n w ∧ (byt s.ob x ≠ none → n = 1)) :
    ∃ v', (Instr.sliceAt t vx vlo vhi none).run C.P w = .ok v' w ∧ RV w S ρ s.sh d v' [] := by
  unfold slcD at e
  split at e
  · rename_i l hh el eh
    have b1 := bnd_ok el hlo hlo'
    have b2 := bnd_ok eh hhi hhi'
    split at e
    · rename_i b ht
      injection e with e; injection e with e1 e2; injection e2 with e2 e3; subst e1; subst e2
      obtain rfl := inv_str hx
      exact ⟨_, sat_str ht b1 b2 hg, .str _⟩
    · rename_i q b ht
      injection e with e; injection e with e1 e2; injection e2 with e2 e3; subst e1; subst e2
      obtain ⟨n1, hn1, hn2⟩ := hsz q ht
      obtain rfl := hn2 (by simp [byt])
      have hb' := okB_all hg
      cases hx with
      | rob _ A n cap hr =>
        obtain rfl := hr.len
        refine ⟨_, sat_slice ht b1 b2 hg hr.le hn1, .rob _ _ _ _ ?_⟩
        have hle := hr.le
        have hmax := hr.max
        rw [cutB_eq]
        refine ⟨by rw [List.length_drop, List.length_take]; omega, by omega, by omega, fun hn => ?_⟩
        obtain ⟨bb, off, rfl, hbS, hc⟩ := hr.cells (by omega)
        rw [if_neg (by omega)]
        refine ⟨bb, off + (lowI l).toNat, by simp [add_lit], hbS, fun i hi => ?_⟩
        rw [Nat.add_assoc, hc _ (by omega)]
        congr 2
        simp only [gb, List.getD_eq_getElem?_getD, List.getElem?_drop, List.getElem?_take]
        rw [if_pos (by omega)]
    · rename_i q ht
      injection e with e; injection e with e1 e2; injection e2 with e2 e3; subst e1; subst e2
      obtain ⟨n1, hn1, hn2⟩ := hsz q ht
      obtain rfl := inv_nilS hx
      have hb' := okB_all hg
      refine ⟨_, sat_slice ht b1 b2 hg (Nat.le_refl _) hn1, ?_⟩
      have e1 : (lowI l).toNat = 0 := by omega
      have e2 : (highI hh 0).toNat = 0 := by omega
      rw [e1, e2]
      exact .nilS
    · rename_i q s' n cs ht
      injection e with e; injection e with e1 e2; injection e2 with e2 e3; subst e1; subst e2
      obtain ⟨g1, g2, g3⟩ := hg
      have hb' := okB_all g3
      cases hx with
      | ros _ _ _ A cap b off us hl hn hm hA hc hr =>
        refine ⟨_, sat_slice ht b1 b2 g3 hn (run_sz' g2), ?_⟩
        rw [lenO_eq, cutL_eq _ _ _ n _ hl, g1]
        have hcut : ∀ {i c}, (List.drop ((lowI l).toNat * (tiOf C.P q).sz) (List.take ((highI hh n).toNat * (tiOf C.P q).sz) cs))[i]? = some c → cs[(lowI l).toNat * (tiOf C.P q).sz + i]? = some c := fun {i c} h1 => by
          rw [List.getElem?_drop, List.getElem?_take] at h1
          split at h1
          · exact h1
          · cases h1
        refine .ros _ _ _ _ _ b (off + (lowI l).toNat * (tiOf C.P q).sz) (fun i => us ((lowI l).toNat * (tiOf C.P q).sz + i)) ?_ (by omega) (by omega) (fun hlt => ?_) (fun hlt i c h1 => ?_) (fun i c h1 => hr _ c (hcut h1))
        · rw [List.length_drop, List.length_take, hl, g1, Nat.sub_mul]
          have : (highI hh n).toNat * (tiOf C.P q).sz ≤ n * (tiOf C.P q).sz := Nat.mul_le_mul_right _ (by omega)
          omega
        · obtain ⟨rfl, hbS⟩ := hA (by omega)
          rw [if_neg (by omega)]
          exact ⟨by simp [add_lit], hbS⟩
        · have := hc (by omega) _ c (hcut h1)
          rw [← Nat.add_assoc] at this
          exact this
    · rename_i q s' n f ht
      injection e with e; injection e with e1 e2; injection e2 with e2 e3; subst e1; subst e2
      obtain ⟨g1, g2, g3⟩ := hg
      have hb' := okB_all g3
      cases hx with
      | rof _ _ _ A cap b off us hn hm hp hA hc hr =>
        refine ⟨_, sat_slice ht b1 b2 g3 hn (run_sz' g2), ?_⟩
        rw [lenO_eq, ← g1]
        refine .rof _ _ _ _ _ b (off + (lowI l).toNat * s') (fun i j => us ((lowI l).toNat + i) j) (by omega) (by omega) (fun i j hi hj => by rw [shO_eq]; exact hp _ _ (by omega) hj) (fun hlt => ?_) (fun i j hi hj => ?_) (fun i j hi hj => by rw [shO_eq]; exact hr _ _ (by omega) hj)
        · obtain ⟨rfl, hbS⟩ := hA (by omega)
          rw [if_neg (by omega)]
          exact ⟨by simp [add_lit], hbS⟩
        · have := hc ((lowI l).toNat + i) j (by omega) hj
          rw [Nat.add_mul] at this
          rw [← this]
          congr 2
          omega
    · rename_i q o g' off len ht
      injection e with e; injection e with e1 e2; injection e2 with e2 e3; subst e1; subst e2
      obtain ⟨g1, g2, g3, g4⟩ := hg
      have hb' := okB_all g4
      obtain ⟨A, cap, rfl, h1, h2, h3, h4⟩ := inv_sl hx g1
      rw [lenO_eq, addO_eq]
      refine ⟨_, sat_slice ht b1 b2 g4 h1 (run_sz' g3), .sl _ _ _ _ _ rfl (Nat.le_of_eq g1) (fun _ => ⟨_, _, rfl, ?_⟩)⟩
      have g2' : (s.sh o).esz = (tiOf C.P q).sz := g2
      rw [g2'] at h3 h4 ⊢
      have m1 : (highI hh len).toNat * (tiOf C.P q).sz ≤ len * (tiOf C.P q).sz := Nat.mul_le_mul_right _ (by omega)
      have m2 : ((highI hh len).toNat - (lowI l).toNat) * (tiOf C.P q).sz = (highI hh len).toNat * (tiOf C.P q).sz - (lowI l).toNat * (tiOf C.P q).sz := Nat.sub_mul _ _ _
      have m3 : (lowI l).toNat * (tiOf C.P q).sz ≤ (highI hh len).toNat * (tiOf C.P q).sz := Nat.mul_le_mul_right _ (by omega)
      refine ⟨by omega, by omega, by omega, ?_⟩
      rcases h4 with ⟨h5, h6⟩ | ⟨rfl, h6⟩
      · exact .inl ⟨by omega, by omega⟩
      · by_cases hcl : cap = (lowI l).toNat
        · exact .inl ⟨by omega, by omega⟩
        · right
          rw [if_neg hcl]
          refine ⟨by simp [add_lit, Nat.add_assoc], ?_⟩
          have m4 : (cap - (lowI l).toNat) * (tiOf C.P q).sz = cap * (tiOf C.P q).sz - (lowI l).toNat * (tiOf C.P q).sz := Nat.sub_mul _ _ _
          have m5 : (lowI l).toNat * (tiOf C.P q).sz ≤ cap * (tiOf C.P q).sz := Nat.mul_le_mul_right _ (by omega)
          omega
    · rename_i n q o g' off ht
      injection e with e; injection e with e1 e2; injection e2 with e2 e3; subst e1; subst e2
      obtain ⟨g1, g2, g3, gm, gl, g5, g4⟩ := hg
      have hb' := okB_all g4
      obtain rfl := inv_ptr hx g1
      rw [lenO_eq, addO_eq]
      refine ⟨_, sat_arr ht b1 b2 g4 (run_sz' g3), .sl _ _ _ _ _ rfl (Nat.le_of_eq g1) (fun _ => ⟨some (if n = (lowI l).toNat then _ else _), _, rfl, ?_⟩)⟩
      have g2' : (s.sh o).esz = (tiOf C.P q).sz := g2
      have g5' : off + n * (tiOf C.P q).sz ≤ (s.sh o).clen := g5
      rw [g2']
      have m1 : (highI hh n).toNat * (tiOf C.P q).sz ≤ n * (tiOf C.P q).sz := Nat.mul_le_mul_right _ (by omega)
      have m2 : ((highI hh n).toNat - (lowI l).toNat) * (tiOf C.P q).sz = (highI hh n).toNat * (tiOf C.P q).sz - (lowI l).toNat * (tiOf C.P q).sz := Nat.sub_mul _ _ _
      have m3 : (lowI l).toNat * (tiOf C.P q).sz ≤ (highI hh n).toNat * (tiOf C.P q).sz := Nat.mul_le_mul_right _ (by omega)
      refine ⟨by omega, by omega, by omega, ?_⟩
      by_cases hcl : n = (lowI l).toNat
      · exact .inl ⟨by omega, by omega⟩
      · right
        rw [if_neg hcl]
        refine ⟨by simp [add_lit, Nat.add_assoc], ?_⟩
        have m4 : (n - (lowI l).toNat) * (tiOf C.P q).sz = n * (tiOf C.P q).sz - (lowI l).toNat * (tiOf C.P q).sz := Nat.sub_mul _ _ _
        have m5 : (lowI l).toNat * (tiOf C.P q).sz ≤ n * (tiOf C.P q).sz := Nat.mul_le_mul_right _ (by omega)
        obtain ⟨c, hct⟩ := Option.isSome_iff_exists.1 gl
        obtain ⟨q1, q2⟩ := h.ob o c hct
        have m7 : (tiOf C.P q).sz ≤ n * (tiOf C.P q).sz := Nat.le_mul_of_pos_left _ (by omega)
        rcases q2 with ⟨q3, _⟩ | ⟨cur, E, fz, Fs, _, _, _, q3, _⟩
        · omega
        · omega
    · cases e
  · cases e
end
end Go.Proofs.YtabkpoklihkifaaDoor

/- Conversions between numbers, lengths, the least of two, one operand's operations, equality of arrays of bytes, the array behind a slice. Over any program. -/
namespace Go.Proofs.YtabkpoklihkifaaDoor
open Go Go.RowKit
set_option linter.unusedVariables false
set_option linter.unusedSimpArgs false

def w32 (n : Int) : UInt32 := UInt32.ofNat (n % 4294967296).toNat
theorem u32v_w32 (n : Int) : Value.int .u32 (IntKind.u32.wrap n) = u32v (w32 n) := by
  rw [wrap_u32]
  unfold u32v w32
  congr 1
  rw [UInt32.toNat_ofNat']
  omega
/-- A number of one kind as one of another. -/
def cvN (k : IntKind) (x : D) : Option (Prop × D) :=
  match k, x with
  | .u8, .int _ n => some (True, .u8 (b8 n))
  | .u8, .u8 a => some (True, .u8 a)
  | .u8, .u32 a => some (True, .u8 a.toUInt8)
  | .u32, .int _ n => some (True, .u32 (w32 n))
  | .u32, .u8 a => some (True, .u32 a.toUInt32)
  | .u32, .u32 a => some (True, .u32 a)
  | .u64, .int .u64 n => some (inR .u64 n, .int .u64 n)
  | .u64, .int _ n => some (True, .int .u64 (IntKind.u64.wrap n))
  | .i64, .int _ n => some (inR .i64 n, .int .i64 n)
  | .i64, .u8 a => some (True, .int .i64 a.toNat)
  | .i64, .u32 a => some (True, .int .i64 a.toNat)
  | .u64, .u8 a => some (True, .int .u64 a.toNat)
  | .u64, .u32 a => some (True, .int .u64 a.toNat)
  | _, _ => none
def cvD (Ti : Nat → TI) (a b : TypeId) (x : D) : Option (Prop × D) :=
  match (Ti b).ty with
  | .int k => match (Ti a).ty with | .int _ => cvN k x | _ => none
  | .str => match (Ti a).ty, x with | .str, .str l => some (True, .str l) | _, _ => none
  | _ => none
def lenD (Ti : Nat → TI) (O : Nat → Ob) (t : TypeId) (x : D) : Option (Prop × D × List Nat) :=
  match (Ti t).ty, x with
  | .str, .str l => some (True, .int .i64 l.length, [])
  | .slice _, .rob l => some (True, .int .i64 l.length, [])
  | .slice _, .ros _ n _ => some (True, .int .i64 n, [])
  | .slice _, .rof _ n _ => some (True, .int .i64 n, [])
  | .slice _, .nilS => some (True, .int .i64 0, [])
  | .slice _, .lsl n => some (True, .int .i64 n, [])
  | .slice _, .sl o g _ len => some (g = (O o).sh.gen, .int .i64 len, [o])
  | .arr n _, _ => some (True, .int .i64 n, [])
  | _, _ => none
def minD (x y : D) : Option D :=
  match x, y with
  | .int k a, .int _ b => some (.int k (min a b))
  | _, _ => none
def unD (op : UnOp) (x : D) : Option (Prop × D) :=
  match op, x with
  | .not, .bool b => some (True, .bool (!b))
  | .neg, .int k n => some (inR k (0 - n), .int k (0 - n))
  | .xor, .u32 a => some (True, .u32 (4294967295 ^^^ a))
  | _, _ => none
def apD (Ti : Nat → TI) (O : Nat → Ob) (t : TypeId) (x : D) : Option (Prop × D × List Nat) :=
  match (Ti t).ty, x with
  | .arr n _, .sl o g off len => some ((g = (O o).sh.gen ∧ 0 < n ∧ n ≤ len), .ptr o g off, [o])
  | .arr n _, .rob l => some ((0 < n ∧ n ≤ l.length), .rpb 0 l, [])
  | _, _ => none
def eqaD (Ti : Nat → TI) (op : BinOp) (t : TypeId) (x y : D) : Option (Prop × D) :=
  match (Ti t).ty, x, y with
  | .arr n e, .aggb a, .aggb b =>
    match op with
    | .eql => some ((isBA Ti t = true ∧ (Ti t).eqg = false ∧ (Ti e).sz = 1 ∧ a.length = n ∧ b.length = n), .bool (decide (a = b)))
    | .neq => some ((isBA Ti t = true ∧ (Ti t).eqg = false ∧ (Ti e).sz = 1 ∧ a.length = n ∧ b.length = n), .bool (!decide (a = b)))
    | _ => none
  | _, _, _ => none

section
variable {P : Program} {w : World} {S : Nat → Prop} {ρ : Nat → Pl} {H : Nat → Sh}
theorem run_cv_int {a b : TypeId} {k k' k0 : IntKind} (ha : (tiOf P a).ty = .int k0) (hb : (tiOf P b).ty = .int k) (n : Int) : (convert a b (.int k' n)).run P w = .ok (.int k (k.wrap n)) w := by
  simp [convert, run_underlying (ti_int ha), run_underlying (ti_int hb), Conv.intToInt]
theorem small_i64 (n : Nat) (h : n < 4294967296) : IntKind.i64.wrap (n : Int) = n := wrap_inR _ _ (by simp [inR, IntKind.min, IntKind.max, IntKind.signed, IntKind.bits]; omega)
theorem small_u64 (n : Nat) (h : n < 4294967296) : IntKind.u64.wrap (n : Int) = n := wrap_inR _ _ (by simp [inR, IntKind.min, IntKind.max, IntKind.signed, IntKind.bits]; omega)
theorem cvN_ok {a b : TypeId} {k k0 : IntKind} (ha : (tiOf P a).ty = .int k0) (hb : (tiOf P b).ty = .int k) {x : D} {g : Prop} {d : D} (e : cvN k x = some (g, d)) (hg : g) {v : Value} (hr : RV w S ρ H x v []) :
    ∃ v', (convert a b v).run P w = .ok v' w ∧ RV w S ρ H d v' [] := by
  unfold cvN at e
  split at e <;> first | (cases e; done) | (injection e with e; injection e with e1 e2; subst e1; subst e2)
  · obtain rfl := inv_int hr
    exact ⟨_, run_cv_int ha hb _, by rw [u8_wrap]; exact .u8 _⟩
  · obtain rfl := inv_u8 hr
    rename_i x
    refine ⟨_, run_cv_int ha hb _, ?_⟩
    rw [u8_wrap, b8_of]
    exact .u8 _
  · obtain rfl := inv_u32 hr
    rename_i x
    refine ⟨_, run_cv_int ha hb _, ?_⟩
    have e : Value.int .u8 (IntKind.u8.wrap (x.toNat : Int)) = Proofs.YtabkpoklihkifaaDoor.u8 x.toUInt8 := by
      unfold Proofs.YtabkpoklihkifaaDoor.u8
      rw [wrap_u8, UInt32.toNat_toUInt8]
      congr 1
    rw [e]
    exact .u8 _
  · obtain rfl := inv_int hr
    exact ⟨_, run_cv_int ha hb _, by rw [u32v_w32]; exact .u32 _⟩
  · obtain rfl := inv_u8 hr
    rename_i x
    refine ⟨_, run_cv_int ha hb _, ?_⟩
    have e : Value.int .u32 (IntKind.u32.wrap (x.toNat : Int)) = u32v x.toUInt32 := by
      have := u8_lt x
      unfold u32v
      rw [wrap_u32, UInt8.toNat_toUInt32]
      congr 1
      omega
    rw [e]
    exact .u32 _
  · obtain rfl := inv_u32 hr
    rename_i x
    refine ⟨_, run_cv_int ha hb _, ?_⟩
    have e : Value.int .u32 (IntKind.u32.wrap (x.toNat : Int)) = u32v x := by
      have := u32_lt x
      unfold u32v
      rw [wrap_u32]
      congr 1
      omega
    rw [e]
    exact .u32 _
  · obtain rfl := inv_int hr
    exact ⟨_, run_cv_int ha hb _, by rw [wrap_inR _ _ hg]; exact .int _ _⟩
  · obtain rfl := inv_int hr
    exact ⟨_, run_cv_int ha hb _, .int _ _⟩
  · obtain rfl := inv_int hr
    exact ⟨_, run_cv_int ha hb _, by rw [wrap_inR _ _ hg]; exact .int _ _⟩
  · obtain rfl := inv_u8 hr
    rename_i x
    have := u8_lt x
    exact ⟨_, run_cv_int ha hb _, by rw [small_i64 _ (by omega)]; exact .int _ _⟩
  · obtain rfl := inv_u32 hr
    rename_i x
    have := u32_lt x
    exact ⟨_, run_cv_int ha hb _, by rw [small_i64 _ (by omega)]; exact .int _ _⟩
  · obtain rfl := inv_u8 hr
    rename_i x
    have := u8_lt x
    exact ⟨_, run_cv_int ha hb _, by rw [small_u64 _ (by omega)]; exact .int _ _⟩
  · obtain rfl := inv_u32 hr
    rename_i x
    have := u32_lt x
    exact ⟨_, run_cv_int ha hb _, by rw [small_u64 _ (by omega)]; exact .int _ _⟩
theorem cvD_ok {a b : TypeId} {x : D} {g : Prop} {d : D} (e : cvD (tiOf P) a b x = some (g, d)) (hg : g) {v : Value} (hr : RV w S ρ H x v []) :
    ∃ v', (convert a b v).run P w = .ok v' w ∧ RV w S ρ H d v' [] := by
  unfold cvD at e
  split at e
  · rename_i k hb
    split at e
    · rename_i k0 ha
      exact cvN_ok ha hb e hg hr
    · cases e
  · rename_i hb
    split at e
    · rename_i l ha
      injection e with e; injection e with e1 e2; subst e1; subst e2
      obtain rfl := inv_str hr
      exact ⟨_, by simp [convert, run_underlying (ti_str ha), run_underlying (ti_str hb)], .str _⟩
    · cases e
  · cases e
theorem minD_ok {T : Array TypeId} {ty : TypeId} {x y d : D} (e : minD x y = some d) {vx vy : Value} (hx : RV w S ρ H x vx []) (hy : RV w S ρ H y vy []) :
    ∃ v', (Builtin.min_ T ty #[vx, vy]).run P w = .ok v' w ∧ RV w S ρ H d v' [] := by
  unfold minD at e
  split at e
  · injection e with e; subst e
    obtain rfl := inv_int hx
    obtain rfl := inv_int hy
    rename_i k a k' b
    refine ⟨.int k (if b < a then b else a), by simp [Builtin.min_, Builtin.min2], ?_⟩
    have : (if b < a then b else a) = min a b := by
      rw [Int.min_def]
      split <;> split <;> omega
    rw [this]
    exact .int _ _
  · cases e
theorem unD_ok {op : UnOp} {x : D} {g : Prop} {d : D} (e : unD op x = some (g, d)) (hg : g) {v : Value} (hr : RV w S ρ H x v []) :
    ∃ v', (Op.unary op v).run P w = .ok v' w ∧ RV w S ρ H d v' [] := by
  unfold unD at e
  split at e <;> first | (cases e; done) | (injection e with e; injection e with e1 e2; subst e1; subst e2)
  · obtain rfl := inv_bool hr
    exact ⟨_, rfl, .bool _⟩
  · obtain rfl := inv_int hr
    rename_i k n
    exact ⟨.int k (0 - n), by simp only [Op.unary, Op.intArith, wrap_inR _ _ hg]; rfl, .int _ _⟩
  · obtain rfl := inv_u32 hr
    rename_i a
    refine ⟨u32v (4294967295 ^^^ a), ?_, .u32 _⟩
    have : Op.unary .xor (u32v a) = pure (u32v (4294967295 ^^^ a)) := bin_xor32 0 4294967295 a
    rw [this]
    rfl
theorem inv_rob {l : List UInt8} {v : Value} {F : List Nat} (h : RV w S ρ H (.rob l) v F) : ∃ A n cap, v = .slice A n cap ∧ RdS w S A n cap l := by
  cases h with
  | rob _ A n cap h => exact ⟨A, n, cap, rfl, h⟩
theorem inv_ros {s n : Nat} {cs : List D} {v : Value} {F : List Nat} (h : RV w S ρ H (.ros s n cs) v F) : ∃ A cap, v = .slice A n cap ∧ n ≤ cap := by
  cases h with
  | ros _ _ _ A cap b off us hl hn => exact ⟨A, cap, rfl, hn⟩

/-- Arrays of bytes are the same just where their bytes are. -/
theorem run_eqBytes {e : TypeId} (he : (tiOf P e).ty = .int .u8) (d : Nat) (a b : List UInt8) : ∀ (is : List Nat), (∀ i ∈ is, i < a.length ∧ i < b.length) → (Op.eqItems (d + 1) e 1 (u8s a).toArray (u8s b).toArray is).run P w = .ok (decide (∀ i ∈ is, gb a i = gb b i)) w
  | [], _ => by simp [Op.eqItems]
  | i :: is, h => by
    have hi := h i (by simp)
    have h1 : (part e (u8s a).toArray (i * 1)).run P w = .ok (u8 (gb a i)) w := run_part_one (by rw [he]; rfl) (by rw [Nat.mul_one, List.getElem?_toArray, u8s_get, gb_of hi.1]; rfl)
    have h2 : (part e (u8s b).toArray (i * 1)).run P w = .ok (u8 (gb b i)) w := run_part_one (by rw [he]; rfl) (by rw [Nat.mul_one, List.getElem?_toArray, u8s_get, gb_of hi.2]; rfl)
    have h3 : (Op.equalIn (d + 1) e (u8 (gb a i)) (u8 (gb b i))).run P w = .ok (decide (gb a i = gb b i)) w := by
      have := run_equalIn_int (P := P) w d e .u8 .u8 (gb a i).toNat (gb b i).toNat (ti_int he)
      unfold u8
      rw [this]
      congr 1
      have h1 : (((gb a i).toNat : Int) = ((gb b i).toNat : Int)) ↔ gb a i = gb b i := ⟨fun h => UInt8.toNat_inj.1 (by omega), fun h => by rw [h]⟩
      rw [Bool.eq_iff_iff]; simp [h1]
    have ih := run_eqBytes he d a b is (fun j hj => h j (by simp [hj]))
    simp only [Op.eqItems, Sem.run_bind, h1, h2, h3, Result.andThen_ok]
    by_cases hq : gb a i = gb b i
    · simp [hq, ih]
    · simp [hq]
theorem eqaD_ok {op : BinOp} {t : TypeId} {x y : D} {g : Prop} {d : D} (e : eqaD (tiOf P) op t x y = some (g, d)) (hg : g) {vx vy : Value} (hx : RV w S ρ H x vx []) (hy : RV w S ρ H y vy []) (ox oy : Operand) :
    ∃ v', (eqGuard op t ox oy vx vy).run P w = .ok () w ∧ (binOp op t vx vy).run P w = .ok v' w ∧ RV w S ρ H d v' [] := by
  unfold eqaD at e
  split at e
  · rename_i n el a b ht
    obtain rfl := inv_aggb hx
    obtain rfl := inv_aggb hy
    have key : isBA (tiOf P) t = true ∧ (tiOf P t).eqg = false ∧ (tiOf P el).sz = 1 ∧ a.length = n ∧ b.length = n → (eqGuard op t ox oy (.agg (u8s a).toArray) (.agg (u8s b).toArray)).run P w = .ok () w ∧ (Op.equal t (.agg (u8s a).toArray) (.agg (u8s b).toArray)).run P w = .ok (decide (a = b)) w := by
      rintro ⟨g1, g2, g3, rfl, g5⟩
      rw [ti_eqg] at g2
      have hel : (tiOf P el).ty = .int .u8 := by
        unfold isBA at g1
        rw [ht] at g1
        simp only at g1
        split at g1
        · assumption
        · cases g1
      refine ⟨?_, ?_⟩
      · clear e
        cases op <;> simp [eqGuard, g2]
      · obtain ⟨i, hi, hs⟩ := sz_ne (P := P) (t := el) (by omega)
        have hc : P.cellsOf el = 1 := by simp [Program.cellsOf, hi, hs, g3]
        have h1 := run_equalIn_array (P := P) w 9999 (u8s a).toArray (u8s b).toArray (ti_arr ht) hi
        rw [hc] at h1
        have h2 := run_eqBytes (w := w) hel 9998 a b (List.range a.length) (fun i hi => by simp at hi; omega)
        have h3 : (Op.equal t (.agg (u8s a).toArray) (.agg (u8s b).toArray)).run P w = (Op.equalIn (9999 + 1) t (.agg (u8s a).toArray) (.agg (u8s b).toArray)).run P w := rfl
        rw [h3, h1, h2]
        congr 1
        have : (∀ i ∈ List.range a.length, gb a i = gb b i) ↔ a = b := by
          constructor
          · intro h
            apply List.ext_getElem (by omega)
            intro i h1 h2
            have := h i (by simpa using h1)
            simpa [gb, List.getD_eq_getElem?_getD, h1, h2] using this
          · rintro rfl i _
            rfl
        exact decide_eq_decide.2 this
    split at e <;> first | (cases e; done) | (injection e with e; injection e with e1 e2; subst e1; subst e2)
    · obtain ⟨k1, k2⟩ := key hg
      refine ⟨_, k1, ?_, .bool _⟩
      simp only [binOp]
      simp [k2]
    · obtain ⟨k1, k2⟩ := key hg
      refine ⟨_, k1, ?_, .bool _⟩
      simp only [binOp]
      simp [k2]
  · cases e
end
section
variable {C : Ctx} {s : St} {ρ : Nat → Pl} {S : Nat → Prop} {Φ : Nat → List Nat} {w : World}
theorem lenD_ok {t ty : TypeId} {x : D} {g : Prop} {d : D} {R : List Nat} (e : lenD (tiOf C.P) s.ob t x = some (g, d, R)) (hg : g) {v : Value} (hr : RV w S ρ s.sh x v []) :
    ∃ v', (Builtin.len_ #[t] ty #[v]).run C.P w = .ok v' w ∧ RV w S ρ s.sh d v' [] := by
  unfold lenD at e
  split at e <;> first | (cases e; done) | (injection e with e; injection e with e1 e2; injection e2 with e2 e3; subst e1; subst e2)
  · rename_i l ht
    obtain rfl := inv_str hr
    exact ⟨_, by simp [Builtin.len_, run_underlying (ti_str ht), goInt, str_size], .int _ _⟩
  · rename_i q l ht
    obtain ⟨A, n, cap, rfl, h⟩ := inv_rob hr
    exact ⟨_, by simp [Builtin.len_, run_underlying (ti_slice ht), goInt, h.len], .int _ _⟩
  · rename_i q s' n cs ht
    obtain ⟨A, cap, rfl, h⟩ := inv_ros hr
    exact ⟨_, by simp [Builtin.len_, run_underlying (ti_slice ht), goInt], .int _ _⟩
  · rename_i q s' n f ht
    cases hr with
    | rof _ _ _ A cap b off us hn =>
      exact ⟨_, by simp [Builtin.len_, run_underlying (ti_slice ht), goInt], .int _ _⟩
  · rename_i q ht
    obtain rfl := inv_nilS hr
    exact ⟨_, by simp [Builtin.len_, run_underlying (ti_slice ht), goInt], .int _ _⟩
  · rename_i q n ht
    cases hr
    exact ⟨_, by simp [Builtin.len_, run_underlying (ti_slice ht), goInt], .int _ _⟩
  · rename_i q o g' off len ht
    obtain ⟨A, cap, rfl, _⟩ := inv_sl hr hg
    exact ⟨_, by simp [Builtin.len_, run_underlying (ti_slice ht), goInt], .int _ _⟩
  · rename_i n q ht
    exact ⟨.int .i64 n, by cases v <;> simp [Builtin.len_, run_underlying (ti_arr ht), goInt], .int _ _⟩
theorem apD_ok {t : TypeId} {x : D} {g : Prop} {d : D} {R : List Nat} (e : apD (tiOf C.P) s.ob t x = some (g, d, R)) (hg : g) {v : Value} (hr : RV w S ρ s.sh x v []) :
    ∃ v', (Instr.arrayAt t v).run C.P w = .ok v' w ∧ RV w S ρ s.sh d v' [] := by
  unfold apD at e
  split at e <;> first | (cases e; done) | (injection e with e; injection e with e1 e2; injection e2 with e2 e3; subst e1; subst e2)
  · rename_i n q o g' off len ht
    obtain ⟨g1, g2, g3⟩ := hg
    obtain ⟨A, cap, rfl, h1, h2, h3, h4⟩ := inv_sl hr g1
    rcases h4 with ⟨h4, _⟩ | ⟨rfl, _⟩
    · omega
    · exact ⟨_, by simp [Instr.arrayAt, run_underlying (ti_arr ht), show ¬ len < n by omega], rv_ptr o g' _ g1⟩
  · rename_i n q l ht
    obtain ⟨g1, g2⟩ := hg
    obtain ⟨A, m, cap, rfl, h⟩ := inv_rob hr
    have hl := h.len
    obtain ⟨b, off, rfl, hb, hc⟩ := h.cells (by omega)
    refine ⟨.pointer (some ⟨b, off + 0, none⟩), by simp [Instr.arrayAt, run_underlying (ti_arr ht), show ¬ m < n by omega], ?_⟩
    exact .rpb 0 l b off hb (fun j hj => hc j (by omega))
end
end Go.Proofs.YtabkpoklihkifaaDoor
