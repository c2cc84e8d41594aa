/- Operations that write: stores, copy, append. Over any program. -/
import Derived.Test.YtpmbdppppnbmnaaFill
namespace Go.Proofs.Ytpmbdppppnbmnaa
open Go Go.RowKit
set_option linter.unusedVariables false
set_option linter.unusedSimpArgs false

/-- Some cells written over. -/
def Cont.splice (c : Cont) (off : Nat) (ds : List D) : Cont :=
  match c with
  | .bytes l => .bytes (l.take off ++ ds.map D.toU8 ++ l.drop (off + ds.length))
  | .cells cs => .cells (cs.take off ++ ds ++ cs.drop (off + ds.length))
def Cont.ok (c : Cont) (ds : List D) : Prop :=
  match c with
  | .bytes _ => ds.all D.isU8 = true
  | .cells _ => ds.all D.sc = true
theorem Cont.splice_len (c : Cont) (off : Nat) (ds : List D) (h : off + ds.length ≤ c.len) : (c.splice off ds).len = c.len := by
  cases c <;> simp [Cont.splice, Cont.len] at h ⊢ <;> omega
theorem u8_of_sc {ds : List D} (h : ds.all D.isU8 = true) : ds.all D.sc = true := by
  rw [all_u8_of h]
  exact u8_sc _

section
variable {C : Ctx} {s : St} {ρ : Nat → Pl} {S : Nat → Prop} {Φ : Nat → List Nat} {w w' : World}

theorem upd_self {α : Type} (f : Nat → α) (a : Nat) : upd f a (f a) = f := by
  funext x
  unfold upd
  split
  · rename_i e; rw [e]
  · rfl
theorem flat_sub (Fs : List (List Nat)) (off n : Nat) : (Fs.take off ++ List.replicate n [] ++ Fs.drop (off + n)).flatten.Sublist Fs.flatten := by
  have e : Fs.flatten = (Fs.take off).flatten ++ (((Fs.drop off).take n).flatten ++ (Fs.drop (off + n)).flatten) := by
    rw [← List.flatten_append, ← List.drop_drop, List.take_append_drop, ← List.flatten_append, List.take_append_drop]
  rw [e, List.flatten_append, List.flatten_append, flat_nil, List.append_nil]
  exact List.Sublist.append (List.Sublist.refl _) (List.sublist_append_right _ _)

theorem get_splice {α : Type} (l m : List α) (off i : Nat) (hl : off + m.length ≤ l.length) : (l.take off ++ m ++ l.drop (off + m.length))[i]? = if i < off then l[i]? else if i < off + m.length then m[i - off]? else l[i]? := by
  have hl1 : (l.take off).length = off := by rw [List.length_take]; omega
  rw [List.append_assoc, List.getElem?_append, hl1]
  by_cases h1 : i < off
  · rw [if_pos h1, if_pos h1, List.getElem?_take, if_pos h1]
  · rw [if_neg h1, if_neg h1, List.getElem?_append]
    by_cases h2 : i < off + m.length
    · rw [if_pos (by omega), if_pos h2]
    · rw [if_neg (by omega), if_neg h2, List.getElem?_drop]
      congr 1
      omega
/-- Cells of an object are written. -/
theorem splice_ok (h : RepW C s ρ S Φ w) {o : Nat} {c : Cont} (ho : (s.ob o).ct = some c) (off : Nat) {ds : List D} {vs : List Value} (hp : PR w S ρ s.sh ds vs) (hc : c.ok ds) (hl : off + ds.length ≤ c.len) (h0 : 0 < ds.length) (P : Program) :
    ∃ w' Φ', (storeCells ⟨(ρ o).blk, (ρ o).base + off, none⟩ vs 0).run P w = .ok () w' ∧ RepW C (s.lay o ⟨s.sh o, some (c.splice off ds)⟩) ρ S Φ' w' ∧ (∀ d v, RV w S ρ s.sh d v [] → RV w' S ρ (s.lay o ⟨s.sh o, some (c.splice off ds)⟩).sh d v []) := by
  have hsc : ds.all D.sc = true := by cases c with | bytes l => exact u8_of_sc hc | cells cs => exact hc
  obtain ⟨hcl, h2⟩ := h.ob o c ho
  rcases h2 with ⟨h1, _⟩ | ⟨cur, E, fz, Fs, hh, hz, hs, hb, hF, hct⟩
  · omega
  · have hst := run_storeCells_loose P (ρ o).blk ((ρ o).base + off) E fz vs 0 cur w hh hz (by rw [hp.1]; omega) (hp.one_ hsc)
    simp only [Nat.add_zero] at hst
    have hsz : (cur.toList.take ((ρ o).base + off) ++ vs ++ cur.toList.drop ((ρ o).base + off + vs.length)).toArray.size = cur.size := by
      simp only [List.size_toArray, List.length_append, List.length_take, List.length_drop, Array.length_toList, hp.1]
      omega
    have hw0 : ∀ b, b ≠ (ρ o).blk → (w.setRow (ρ o).blk (cur.toList.take ((ρ o).base + off) ++ vs ++ cur.toList.drop ((ρ o).base + off + vs.length)).toArray).heap[b]? = w.heap[b]? := fun b hb => setRow_other w _ b _ hb
    have hwS : ∀ b, S b → (w.setRow (ρ o).blk (cur.toList.take ((ρ o).base + off) ++ vs ++ cur.toList.drop ((ρ o).base + off + vs.length)).toArray).heap[b]? = w.heap[b]? := fun b hb => hw0 b (fun e => by
      have := ((h.own o c ho).2 (ρ o).blk (by rw [hF]; simp)).1
      exact this (e ▸ hb))
    have hget : ∀ i, (cur.toList.take ((ρ o).base + off) ++ vs ++ cur.toList.drop ((ρ o).base + off + vs.length)).toArray[(ρ o).base + i]? = if i < off then cur[(ρ o).base + i]? else if i < off + ds.length then vs[i - off]? else cur[(ρ o).base + i]? := by
      intro i
      have hl1 : (cur.toList.take ((ρ o).base + off)).length = (ρ o).base + off := by rw [List.length_take, Array.length_toList]; omega
      rw [List.getElem?_toArray, List.append_assoc, List.getElem?_append, hl1]
      by_cases h1 : i < off
      · rw [if_pos (by omega), if_pos h1, List.getElem?_take, if_pos (by omega), Array.getElem?_toList]
      · rw [if_neg (by omega), if_neg h1, List.getElem?_append, hp.1]
        by_cases h2 : i < off + ds.length
        · rw [if_pos (by omega), if_pos h2]
          congr 1
          omega
        · rw [if_neg (by omega), if_neg h2, List.getElem?_drop, Array.getElem?_toList]
          congr 1
          omega
    have hshh : upd s.sh o (⟨s.sh o, some (c.splice off ds)⟩ : Ob).sh = s.sh := upd_self s.sh o
    generalize hW : w.setRow (ρ o).blk (cur.toList.take ((ρ o).base + off) ++ vs ++ cur.toList.drop ((ρ o).base + off + vs.length)).toArray = W at *
    have hmono : ∀ {d v F}, RV w S ρ s.sh d v F → (∀ b ∈ F, b ≠ (ρ o).blk) → RV W S ρ s.sh d v F := fun hr hne => hr.mono (fun _ h => h) hwS (fun o => ⟨Nat.le_refl _, fun _ => ⟨rfl, rfl⟩⟩) (fun b hb => hw0 b (hne b hb))
    have hone := h.one (w' := W) o ⟨s.sh o, some (c.splice off ds)⟩ (ρ o) (match c with | .bytes _ => Φ o | .cells _ => (ρ o).blk :: (Fs.take off ++ List.replicate ds.length [] ++ Fs.drop (off + ds.length)).flatten)
      (by rw [← hW]; rfl) (by rw [← hW]; rfl) (by rw [← hW]; rfl) (by rw [← hW]; simp) (by
        intro b cur' E' fz' hb'
        by_cases hbb : b = (ρ o).blk
        · subst hbb
          rw [hh] at hb'
          injection hb' with hb'
          injection hb' with e1 e2 e3
          subst e1
          exact ⟨_, E, fz, by rw [← hW]; exact setRow_heap w _ cur _ E fz hh, hsz⟩
        · exact ⟨cur', E', fz', (hw0 b hbb).trans hb', rfl⟩) (.inr ⟨rfl, rfl⟩) (fun b hb hn => hw0 b (fun e => hn (by rw [ho]; rfl) (by rw [hF, e]; simp))) ?_ ?_
    · rw [upd_self] at hone
      exact ⟨W, _, hst, hone.1, hone.2⟩
    · intro c' hc'
      have e : c.splice off ds = c' := by simpa using hc'
      subst e
      rw [hshh, upd_self]
      refine ⟨by rw [Cont.splice_len c off ds hl]; exact hcl, .inr ?_⟩
      have hheap : W.heap[(ρ o).blk]? = some (.cells (cur.toList.take ((ρ o).base + off) ++ vs ++ cur.toList.drop ((ρ o).base + off + vs.length)).toArray E fz) := by rw [← hW]; exact setRow_heap w _ cur _ E fz hh
      cases c with
      | bytes l =>
        refine ⟨_, E, fz, Fs, hheap, by rw [hsz]; exact hz, by rw [hsz]; exact hs, by rw [Cont.splice_len _ off ds hl]; exact hb, hF, hct.1, fun i hi => ?_⟩
        have e1 := all_u8_of hc
        generalize ds.map D.toU8 = m at *
        subst e1
        have hm : vs = u8s m := vs_u8 (by simpa using hp.1) hp.2
        subst hm
        have hl' : off + m.length ≤ l.length := by simpa [Cont.len] using hl
        have hi' : i < l.length := by
          simp at hi
          omega
        rw [hget]
        simp only [List.length_map]
        have hg : (l.take off ++ m ++ l.drop (off + m.length))[i]? = some (gb (l.take off ++ m ++ l.drop (off + m.length)) i) := gb_of (by simp; omega)
        have hg2 := get_splice l m off i hl'
        rw [hg] at hg2
        by_cases h1 : i < off
        · rw [if_pos h1] at hg2 ⊢
          rw [hct.2 i hi', gb_get hg2.symm]
        · rw [if_neg h1] at hg2 ⊢
          by_cases h2 : i < off + m.length
          · rw [if_pos h2] at hg2 ⊢
            rw [u8s_get, ← hg2]
            rfl
          · rw [if_neg h2] at hg2 ⊢
            rw [hct.2 i hi', gb_get hg2.symm]
      | cells cs =>
        have hl' : off + ds.length ≤ cs.length := hl
        have hfl : Fs.length = cs.length := hct.1
        refine ⟨_, E, fz, Fs.take off ++ List.replicate ds.length [] ++ Fs.drop (off + ds.length), hheap, by rw [hsz]; exact hz, by rw [hsz]; exact hs, by rw [Cont.splice_len _ off ds hl]; exact hb, rfl, by simp [Cont.splice]; omega, fun i c u f h1 h2 h3 => ?_⟩
        rw [hget] at h2
        have h1' := get_splice cs ds off i hl'
        have h3' := get_splice Fs (List.replicate ds.length []) off i (by simp; omega)
        rw [List.length_replicate] at h3'
        have h1'' : (cs.take off ++ ds ++ cs.drop (off + ds.length))[i]? = some c := h1
        rw [h1''] at h1'
        rw [h3] at h3'
        have hkeep : ∀ {c u f}, cs[i]? = some c → cur[(ρ o).base + i]? = some u → Fs[i]? = some f → RV W S ρ s.sh c u f := fun {c u f} q1 q2 q3 => hmono (hct.2 i c u f q1 q2 q3) (fun b hb e => by
          have hn := (h.own o _ ho).1
          rw [hF, List.nodup_cons] at hn
          exact hn.1 (e ▸ mem_flat_of q3 hb))
        by_cases hi1 : i < off
        · rw [if_pos hi1] at h1' h2 h3'
          exact hkeep h1'.symm h2 h3'.symm
        · rw [if_neg hi1] at h1' h2 h3'
          by_cases hi2 : i < off + ds.length
          · rw [if_pos hi2] at h1' h2 h3'
            rw [List.getElem?_replicate] at h3'
            split at h3'
            · injection h3' with h3'
              subst h3'
              exact hmono (hp.2 _ c u h1'.symm h2) (by simp)
            · cases h3'
          · rw [if_neg hi2] at h1' h2 h3'
            exact hkeep h1'.symm h2 h3'.symm
    · intro _
      have hno := h.own o c ho
      have hsub : ∀ b, b ∈ Φ o → ¬ S b ∧ b < W.heap.size ∧ (C.w0.heap.size ≤ b ∨ b ∈ C.M) ∧ b ∉ s.dk ∧ ∀ o' c', o' ≠ o → (s.ob o').ct = some c' → b ∉ Φ o' := fun b hb =>
        ⟨(hno.2 b hb).1, by rw [← hW]; simpa using (hno.2 b hb).2.1, (hno.2 b hb).2.2.1, (hno.2 b hb).2.2.2, fun o' c' hne hc' => h.dis o o' c c' ho hc' (Ne.symm hne) b hb⟩
      cases c with
      | bytes l => exact ⟨hno.1, hsub⟩
      | cells cs =>
        have hss : ((ρ o).blk :: (Fs.take off ++ List.replicate ds.length [] ++ Fs.drop (off + ds.length)).flatten).Sublist (Φ o) := by
          rw [hF]
          exact List.Sublist.cons_cons _ (flat_sub Fs off ds.length)
        exact ⟨hss.nodup hno.1, fun b hb => hsub b (hss.subset hb)⟩

/-- 'x = y' through an address. -/
def stoD (Ti : Nat → TI) (O : Nat → Ob) (t : TypeId) (x y : D) : Option (Prop × Nat × Ob × List Nat) :=
  match x with
  | .ptr o g off =>
    match (O o).ct, y with
    | some (.bytes l), .u8 b => some ((g = (O o).sh.gen ∧ (Ti t).sz = 1 ∧ off < l.length), o, ⟨(O o).sh, some (.bytes (l.set off b))⟩, [o])
    | some (.bytes l), .aggb m => some ((g = (O o).sh.gen ∧ 0 < m.length ∧ (Ti t).sz = m.length ∧ off + m.length ≤ l.length), o, ⟨(O o).sh, some (.bytes (l.take off ++ m ++ l.drop (off + m.length)))⟩, [o])
    | some (.cells cs), y =>
      if y.isAgg then some ((g = (O o).sh.gen ∧ 0 < y.cells.length ∧ (Ti t).sz = y.cells.length ∧ y.cells.all D.sc = true ∧ off + y.cells.length ≤ cs.length), o, ⟨(O o).sh, some (.cells (cs.take off ++ y.cells ++ cs.drop (off + y.cells.length)))⟩, [o])
      else some ((g = (O o).sh.gen ∧ (Ti t).sz = 1 ∧ y.sc = true ∧ off < cs.length), o, ⟨(O o).sh, some (.cells (cs.set off y))⟩, [o])
    | _, _ => none
  | _ => none
theorem set_splice {α : Type} (l : List α) (off : Nat) (x : α) (h : off < l.length) : l.set off x = l.take off ++ [x] ++ l.drop (off + [x].length) := by
  rw [List.set_eq_take_append_cons_drop, if_pos h]
  simp
theorem notAgg_cells {d : D} (h : ¬ d.isAgg = true) : d.cells = [d] := by cases d <;> first | rfl | exact absurd rfl h
theorem sto_ok (h : RepW C s ρ S Φ w) {t : TypeId} {x y : D} {g : Prop} {o : Nat} {ob : Ob} {R : List Nat} (e : stoD (tiOf C.P) s.ob t x y = some (g, o, ob, R)) (hg : g) {vx vy : Value} (hx : RV w S ρ s.sh x vx []) (hy : RV w S ρ s.sh y vy []) :
    ∃ w' Φ', (Instr.storeAt t vx vy).run C.P w = .ok () w' ∧ RepW C (s.lay o ob) ρ S Φ' w' ∧ (∀ d v, RV w S ρ s.sh d v [] → RV w' S ρ (s.lay o ob).sh d v []) := by
  have key : ∀ {o : Nat} {off : Nat} {c : Cont} {y : D}, (s.ob o).ct = some c → RV w S ρ s.sh y vy [] → c.ok y.cells → off + y.cells.length ≤ c.len → 0 < y.cells.length → (tiOf C.P t).sz = y.cells.length →
      ∃ w' Φ', (Instr.storeAt t (.pointer (some ⟨(ρ o).blk, (ρ o).base + off, none⟩)) vy).run C.P w = .ok () w' ∧ RepW C (s.lay o ⟨s.sh o, some (c.splice off y.cells)⟩) ρ S Φ' w' ∧ (∀ d v, RV w S ρ s.sh d v [] → RV w' S ρ (s.lay o ⟨s.sh o, some (c.splice off y.cells)⟩).sh d v []) := by
    intro o off c y hc hy hok hl h0 hsz
    have hsc : y.cells.all D.sc = true := by cases c with | bytes l => exact u8_of_sc hok | cells cs => exact hok
    have hp := cells_ok hy hsc
    obtain ⟨w', Φ', h1, h2, h3⟩ := splice_ok h hc off hp hok hl h0 C.P
    refine ⟨w', Φ', ?_, h2, h3⟩
    obtain ⟨i, hi, hs⟩ := sz_ne (P := C.P) (t := t) (by omega)
    have hv : vy.cells.size = i.size := by rw [← Array.length_toList, hp.1, hs, hsz]
    simp [Instr.storeAt, Instr.sureAddr, storeVar, sizeOf, typeInfo, hi, hv, h1]
  unfold stoD at e
  split at e
  · rename_i o' g' off
    split at e
    · rename_i l b hc
      injection e with e; injection e with e1 e2; injection e2 with e2 e3; injection e3 with e3 e4; subst e1; subst e2; subst e3
      obtain rfl := inv_ptr hx hg.1
      have := key (off := off) (c := .bytes l) (y := .u8 b) hc hy rfl (by simp [D.cells, Cont.len]; omega) (by simp [D.cells]) (by simp [D.cells, hg.2.1])
      rw [set_splice l off b hg.2.2]
      exact this
    · rename_i l m hc
      injection e with e; injection e with e1 e2; injection e2 with e2 e3; injection e3 with e3 e4; subst e1; subst e2; subst e3
      obtain rfl := inv_ptr hx hg.1
      have := key (off := off) (c := .bytes l) (y := .aggb m) hc hy (u8_isU8 m) (by simp [D.cells, Cont.len]; omega) (by simp [D.cells]; omega) (by simp [D.cells, hg.2.2.1])
      simp only [Cont.splice, D.cells, map_toU8, List.length_map] at this
      exact this
    · rename_i cs hc
      split at e
      · injection e with e; injection e with e1 e2; injection e2 with e2 e3; injection e3 with e3 e4; subst e1; subst e2; subst e3
        obtain rfl := inv_ptr hx hg.1
        exact key (off := off) (c := .cells cs) hc hy hg.2.2.2.1 hg.2.2.2.2 hg.2.1 hg.2.2.1
      · rename_i hna
        injection e with e; injection e with e1 e2; injection e2 with e2 e3; injection e3 with e3 e4; subst e1; subst e2; subst e3
        obtain rfl := inv_ptr hx hg.1
        have hcl := notAgg_cells hna
        have := key (off := off) (c := .cells cs) hc hy (by rw [hcl]; simp [Cont.ok, hg.2.2.1]) (by rw [hcl]; have := hg.2.2.2; simp [Cont.len]; omega) (by rw [hcl]; simp) (by rw [hcl]; exact hg.2.1)
        rw [hcl] at this
        rw [set_splice cs off _ hg.2.2.2]
        exact this
    · cases e
  · cases e
end
end Go.Proofs.Ytpmbdppppnbmnaa
