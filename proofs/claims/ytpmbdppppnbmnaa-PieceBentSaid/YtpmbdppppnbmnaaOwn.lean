/- A slice of the call's own that may begin anywhere in its row: append to it, cut it, read it. -/
import Derived.Test.YtpmbdppppnbmnaaBase
namespace Go.Proofs.Ytpmbdppppnbmnaa
open Go.RowKit
set_option linter.unusedVariables false
set_option linter.unusedSimpArgs false

/-- The slice '.slice A n cap' owns the cells xs: it is nil, or it lies in a row (numbered from B on) of which no cell is frozen. -/
def OwnO (w : World) (B : Nat) (E : TypeId) (s : Nat) (A : Option Addr) (n cap : Nat) (xs : List Value) : Prop :=
  xs.length = n * s ∧ n ≤ cap ∧ cap ≤ maxLen ∧
  ((A = none ∧ cap = 0) ∨ ∃ g off cur fz, A = some ⟨g, off, none⟩ ∧ B ≤ g ∧ w.heap[g]? = some (.cells cur E fz) ∧ Loose fz cur.size ∧ off + cap * s ≤ cur.size ∧ (cur.toList.drop off).take (n * s) = xs)

section
variable {w w' : World} {A : Option Addr} {n cap B s : Nat} {E : TypeId} {xs : List Value}
theorem OwnV.toO (h : OwnV w B E s A n cap xs) : OwnO w B E s A n cap xs := by
  obtain ⟨h1, h2, h3, h4⟩ := h
  refine ⟨h1, h2, h3, ?_⟩
  rcases h4 with h0 | ⟨g, cur, fz, rfl, hb, hh, hf, hs, ht⟩
  · exact .inl h0
  · exact .inr ⟨g, 0, cur, fz, rfl, hb, hh, hf, by omega, by simpa using ht⟩
theorem OwnO.len (h : OwnO w B E s A n cap xs) : xs.length = n * s := h.1
theorem OwnO.lt (h : OwnO w B E s A n cap xs) : ∀ g, blk A = some g → B ≤ g ∧ g < w.heap.size := by
  intro g hg
  rcases h.2.2.2 with ⟨rfl, _⟩ | ⟨g', off, cur, fz, rfl, hb, hh, _⟩
  · simp [blk] at hg
  · simp only [blk, Option.map_some, Option.some.injEq] at hg
    subst hg
    exact ⟨hb, (Array.getElem?_eq_some_iff.1 hh).1⟩
theorem OwnO.rd (h : OwnO w B E s A n cap xs) : RdV w w.heap.size s A n cap xs := by
  obtain ⟨h1, h2, h3, h4⟩ := h
  refine ⟨h1, h2, h3, Nat.le_refl _, fun hn => ?_⟩
  rcases h4 with ⟨_, h0⟩ | ⟨g, off, cur, fz, rfl, hb, hh, _, hs, ht⟩
  · omega
  · refine ⟨g, off, rfl, (Array.getElem?_eq_some_iff.1 hh).1, fun i u hu => ?_⟩
    rw [cell_of_row w g (off + i) cur E fz hh, ← Array.getElem?_toList]
    rw [← ht, List.getElem?_take] at hu
    split at hu
    · rw [List.getElem?_drop] at hu
      exact hu
    · cases hu
theorem OwnO.kept {row : Option Nat} (h : OwnO w B E s A n cap xs) (hg : w.grownBy w' row) (hne : ∀ g, blk A = some g → some g ≠ row) : OwnO w' B E s A n cap xs := by
  obtain ⟨h1, h2, h3, h4⟩ := h
  refine ⟨h1, h2, h3, ?_⟩
  rcases h4 with h0 | ⟨g, off, cur, fz, rfl, hb, hh, r⟩
  · exact .inl h0
  · exact .inr ⟨g, off, cur, fz, rfl, hb, (hg.block g (Array.getElem?_eq_some_iff.1 hh).1 (hne g rfl)).trans hh, r⟩
/-- Where its block is as it was. -/
theorem OwnO.same (h : OwnO w B E s A n cap xs) (hg : ∀ g, blk A = some g → w'.heap[g]? = w.heap[g]?) : OwnO w' B E s A n cap xs := by
  obtain ⟨h1, h2, h3, h4⟩ := h
  refine ⟨h1, h2, h3, ?_⟩
  rcases h4 with h0 | ⟨g, off, cur, fz, rfl, hb, hh, r⟩
  · exact .inl h0
  · exact .inr ⟨g, off, cur, fz, rfl, hb, (hg g rfl).trans hh, r⟩
theorem OwnO.ext (h : OwnO w B E s A n cap xs) (hb : Below w.heap.size w w') : OwnO w' B E s A n cap xs :=
  h.same fun g hg => hb.block g (h.lt g hg).2
theorem OwnO.far (h : OwnO w B E s A n cap xs) {p : Addr} (hp : ∀ g, blk A = some g → g ≠ p.block) (u : Value) : OwnO (w.setCell p u) B E s A n cap xs :=
  h.same fun g hg => Below.heap_setCell w p u g (hp g hg)
theorem OwnO.lower {B' : Nat} (h : OwnO w B E s A n cap xs) (hB : B' ≤ B) : OwnO w B' E s A n cap xs := by
  obtain ⟨h1, h2, h3, h4⟩ := h
  refine ⟨h1, h2, h3, ?_⟩
  rcases h4 with h0 | ⟨g, off, cur, fz, rfl, hb, r⟩
  · exact .inl h0
  · exact .inr ⟨g, off, cur, fz, rfl, by omega, r⟩
theorem OwnO.drew (h : OwnO w B E s A n cap xs) : OwnO w.drew B E s A n cap xs := h
theorem OwnO.drewN (h : OwnO w B E s A n cap xs) (k : Nat) : OwnO (w.drewN k) B E s A n cap xs := h
/-- 's[k:]' of it. -/
theorem OwnO.cut (h : OwnO w B E s A n cap xs) {k : Nat} (hk : k ≤ n) : OwnO w B E s (cutA A cap k s) (n - k) (cap - k) (xs.drop (k * s)) := by
  obtain ⟨h1, h2, h3, h4⟩ := h
  unfold cutA
  refine ⟨by rw [List.length_drop, h1, Nat.sub_mul], by omega, by omega, ?_⟩
  rcases h4 with ⟨rfl, h0⟩ | ⟨g, off, cur, fz, rfl, hb, hh, hf, hs, ht⟩
  · exact .inl ⟨by split <;> rfl, by omega⟩
  · right
    by_cases hc : cap = k
    · rw [if_pos hc]
      refine ⟨g, off, cur, fz, rfl, hb, hh, hf, ?_, ?_⟩
      · have : (cap - k) * s = 0 := by rw [hc, Nat.sub_self, Nat.zero_mul]
        omega
      · have hn : n - k = 0 := by omega
        rw [hn, Nat.zero_mul, List.take_zero]
        symm
        apply List.drop_of_length_le
        rw [h1]
        exact Nat.mul_le_mul_right _ (by omega)
    · rw [if_neg hc]
      refine ⟨g, off + k * s, cur, fz, by simp [add_lit], hb, hh, hf, ?_, ?_⟩
      · have : (cap - k) * s + k * s = cap * s := by rw [← Nat.add_mul]; congr 1; omega
        omega
      · rw [← ht, List.drop_take, List.drop_drop, Nat.sub_mul]
end

section
variable {P : Program} (w : World) {T E : TypeId} {z : Value} {s by_ : Nat}

theorem run_append_o (bt : SlTy P T E z s by_) (ty : TypeId) (B : Nat) (A : Option Addr) (n cap : Nat) (xs : List Value) (own : OwnO w B E s A n cap xs) (A2 : Option Addr) (m c : Nat) (ys : List Value) {B2 : Nat} (rd : RdV w B2 s A2 m c ys)
    (h1 : ∀ u ∈ ys, u.oneCell' = true) (hlen : n + m ≤ maxLen) (hbytes : (n + m) * by_ ≤ 140737488355328) (hB : B ≤ w.heap.size) :
    ∃ A' c' w', (Builtin.append_ #[T, T] ty #[.slice A n cap, .slice A2 m c]).run P w = .ok (.slice A' (n + m) c') w' ∧ OwnO w' B E s A' (n + m) c' (xs ++ ys) ∧ w.grownBy w' (blk A) ∧ (blk A' = blk A ∨ blk A' = some w.heap.size) := by
  obtain ⟨i, hi, hz0, hz1, hz2⟩ := info_parts bt.info
  subst hz1
  subst hz2
  have hsmall : n + m ≤ 9223372036854775807 := by simp only [maxLen] at hlen; omega
  obtain ⟨o1, o2, o3, o4⟩ := id own
  have hxy : (xs ++ ys).length = (n + m) * i.size := by rw [List.length_append, o1, rd.len, Nat.add_mul]
  rcases o4 with ⟨rfl, hc0⟩ | ⟨g, off, cur, fz, rfl, hb, hh, hf, hs, ht⟩
  · have hn0 : n = 0 := by omega
    subst hn0
    subst hc0
    have hx : xs = [] := List.eq_nil_of_length_eq_zero (by simpa using o1)
    subst hx
    obtain ⟨A', c', w', r1, r2, r3, r4⟩ := run_append_v (P := P) w bt ty B none 0 0 [] (OwnV.nil_ w B E i.size) A2 m c ys rd h1 hlen hbytes hB
    exact ⟨A', c', w', r1, r2.toO, r3, r4⟩
  · rcases A2 with _ | ad
    · have hm : m = 0 := by
        rcases Nat.eq_zero_or_pos m with h0 | h0
        · exact h0
        · obtain ⟨_, _, h, _⟩ := rd.cells h0
          cases h
      subst hm
      have hl2 : ys = [] := List.eq_nil_of_length_eq_zero (by simpa using rd.len)
      subst hl2
      refine ⟨some ⟨g, off, none⟩, cap, w, ?_, by simpa using own, World.grownBy.refl w _, .inl rfl⟩
      simp [Builtin.append_, run_underlying bt.sl, sizeOf, typeInfo, hi, Builtin.lenOf, Builtin.firstCells, o2, storeCells]
    · have hnews := rd.news ad rfl
      by_cases hroom : n + m ≤ cap
      · have hfit0 : n * i.size + ys.length ≤ cap * i.size := by rw [rd.len, ← Nat.add_mul]; exact Nat.mul_le_mul_right _ hroom
        have hfit : off + n * i.size + ys.length ≤ cur.size := by omega
        have hfc := run_firstCells_some (P := P) w i.size m ad m c ys rd.len hnews
        have hst := run_storeCells_loose P g (off + n * i.size) E fz ys 0 cur w hh hf (by simpa using hfit) h1
        simp only [Nat.add_zero] at hst
        have hr : (Builtin.append_ #[T, T] ty #[.slice (some ⟨g, off, none⟩) n cap, .slice (some ad) m c]).run P w =
            .ok (.slice (some ⟨g, off, none⟩) (n + m) cap) (w.setRow g (cur.toList.take (off + n * i.size) ++ ys ++ cur.toList.drop (off + n * i.size + ys.length)).toArray) := by
          simp [Builtin.append_, run_underlying bt.sl, sizeOf, typeInfo, hi, Builtin.lenOf, hroom, hfc, Addr.add_lit, hst]
        have hsz : (cur.toList.take (off + n * i.size) ++ ys ++ cur.toList.drop (off + n * i.size + ys.length)).toArray.size = cur.size := by
          simp only [List.size_toArray, List.length_append, List.length_take, List.length_drop, Array.length_toList]
          omega
        refine ⟨_, _, _, hr, ⟨hxy, hroom, o3, .inr ⟨g, off, _, fz, rfl, hb, setRow_heap w g cur _ E _ hh, by rw [hsz]; exact hf, by rw [hsz]; exact hs, ?_⟩⟩, ⟨rfl, rfl, rfl, by simp, fun k _ hk => setRow_other w g k _ (fun e => hk (by simp [blk, e]))⟩, .inl rfl⟩
        have hd : (cur.toList.take (off + n * i.size)).drop off = xs := by
          rw [List.drop_take, ← ht]
          congr 1
          omega
        have hlt : off ≤ (cur.toList.take (off + n * i.size)).length := by
          simp only [List.length_take, Array.length_toList]
          omega
        show List.take ((n + m) * i.size) (List.drop off (cur.toList.take (off + n * i.size) ++ ys ++ cur.toList.drop (off + n * i.size + ys.length))) = xs ++ ys
        rw [List.append_assoc, List.drop_append_of_le_length hlt, hd, ← List.append_assoc, ← hxy]
        exact List.take_left
      · have holds : ∀ j u, xs[j]? = some u → w.cell? ((⟨g, off, none⟩ : Addr).add j) = some u := own.rd.news _ rfl
        have hr := run_append_grow (P := P) w T ty E i z bt.sl hi hz0 ⟨g, off, none⟩ n cap xs o1 holds ad m c ys rd.len hnews (by omega) (by omega) (growslice_fits (by omega) hbytes)
        have hge := grownCap_ge w (n + m) cap E
        have hcm : grownCap w (n + m) cap E ≤ maxLen := grownCap_le_maxLen w (n + m) cap E hlen
        refine ⟨_, _, _, hr, ⟨hxy, hge, hcm, .inr ⟨w.heap.size, 0, _, (0, 0), rfl, hB, heap_alloc_new w.drew _, Loose.zero _, ?_, ?_⟩⟩, ⟨rfl, rfl, rfl, by simp, fun k hk _ => Below.heap_alloc w.drew _ k hk⟩, .inr rfl⟩
        · simp only [Array.size_append, List.size_toArray, size_zeroCells, bt.zs, o1, rd.len, ← Nat.add_mul, Nat.zero_add]
          apply Nat.mul_le_mul_right
          omega
        · simp only [Array.toList_append, List.append_assoc, List.drop_zero]
          rw [← List.append_assoc, ← hxy]
          exact List.take_left

theorem wpList_append_o {ops : Array Oper} {rest : List Oper} {o : Oper} {a : Act} {Q : Exit → Act → World → Prop} (hgd : o.guard = none) (st x : Operand) (bt : SlTy P T E z s by_)
    (ho : o.op = .call { callee := .builtin .append, args := #[st, x], argTypes := #[T, T] })
    (B : Nat) (A : Option Addr) (n cap : Nat) (xs : List Value) (hs : a.eval st = .slice A n cap) (own : OwnO w B E s A n cap xs) (A2 : Option Addr) (m c : Nat) (ys : List Value) (hx : a.eval x = .slice A2 m c) {B2 : Nat} (rd : RdV w B2 s A2 m c ys)
    (h1 : ∀ u ∈ ys, u.oneCell' = true) (hlen : n + m ≤ maxLen) (hbytes : (n + m) * by_ ≤ 140737488355328) (hB : B ≤ w.heap.size)
    (h : ∀ A' c' w', OwnO w' B E s A' (n + m) c' (xs ++ ys) → w.grownBy w' (blk A) → (blk A' = blk A ∨ blk A' = some w.heap.size) → wpList P ops Q rest (a.put o.dst (.slice A' (n + m) c')) w') : wpList P ops Q (o :: rest) a w :=
  wpList_plain hgd fun _ hK => by
    obtain ⟨A', c', w', hr, h2, h3, h4⟩ := run_append_o (P := P) w bt o.type B A n cap xs own A2 m c ys rd h1 hlen hbytes hB
    unfold Oper.wp execOp
    simp only [ho, resolve, invoke, builtin, Sem.run_bind, Sem.run_pure, Result.andThen_ok, List.map_toArray, List.map_cons, List.map_nil, hs, hx, hr]
    exact hK _ _ (h A' c' w' h2 h3 h4)
end
end Go.Proofs.Ytpmbdppppnbmnaa
