/- Literals: structs, arrays and slices made of parts; make; the bytes of a string and back. Over any program. -/
import Derived.Test.YtpmbdppppnbmnaaLay
import Derived.Laws.Tables
import Derived.Great.BuildSlice
import Derived.Laws.MakeOwn
namespace Go.Proofs.Ytpmbdppppnbmnaa
open Go Go.RowKit
set_option linter.unusedVariables false
set_option linter.unusedSimpArgs false

def Ty.isB : Ty → Bool
  | .int .u8 => true
  | _ => false
/-- Values one by one. -/
def PR (w : World) (S : Nat → Prop) (ρ : Nat → Pl) (H : Nat → Sh) (cs : List D) (vs : List Value) : Prop :=
  vs.length = cs.length ∧ ∀ (i : Nat) (c : D) (u : Value), cs[i]? = some c → vs[i]? = some u → RV w S ρ H c u []

section
variable {w : World} {S : Nat → Prop} {ρ : Nat → Pl} {H : Nat → Sh}
theorem PR.append {cs cs' : List D} {vs vs' : List Value} (h : PR w S ρ H cs vs) (h' : PR w S ρ H cs' vs') : PR w S ρ H (cs ++ cs') (vs ++ vs') := by
  refine ⟨by simp [h.1, h'.1], fun i c u h1 h2 => ?_⟩
  rw [List.getElem?_append] at h1 h2
  rw [h.1] at h2
  split at h1
  · rename_i hi; rw [if_pos hi] at h2; exact h.2 i c u h1 h2
  · rename_i hi; rw [if_neg hi] at h2; exact h'.2 _ c u h1 h2
theorem PR.take {cs : List D} {vs : List Value} (h : PR w S ρ H cs vs) (n : Nat) : PR w S ρ H (cs.take n) (vs.take n) := by
  refine ⟨by simp [h.1], fun i c u h1 h2 => ?_⟩
  rw [List.getElem?_take] at h1 h2
  split at h1
  · rename_i hi; rw [if_pos hi] at h2; exact h.2 i c u h1 h2
  · cases h1
theorem PR.drop {cs : List D} {vs : List Value} (h : PR w S ρ H cs vs) (n : Nat) : PR w S ρ H (cs.drop n) (vs.drop n) := by
  refine ⟨by simp [h.1], fun i c u h1 h2 => ?_⟩
  rw [List.getElem?_drop] at h1 h2
  exact h.2 _ c u h1 h2
theorem PR.nil : PR w S ρ H [] [] := ⟨rfl, fun i c u h => by simp at h⟩
theorem PR.bytes (l : List UInt8) : PR w S ρ H (l.map D.u8) (u8s l) := by
  refine ⟨by simp [u8s], fun i c u h1 h2 => ?_⟩
  rw [u8s_get] at h2
  rw [List.getElem?_map] at h1
  rcases hx : l[i]? with _ | x
  · rw [hx] at h1; cases h1
  · rw [hx] at h1 h2
    injection h1 with h1
    injection h2 with h2
    subst h1; subst h2
    exact .u8 _
theorem PR.one_ {cs : List D} {vs : List Value} (h : PR w S ρ H cs vs) (hs : cs.all D.sc = true) : ∀ u ∈ vs, u.oneCell' = true := by
  intro u hu
  obtain ⟨i, hi⟩ := List.getElem?_of_mem hu
  have hlt : i < cs.length := by rw [← h.1]; exact (List.getElem?_eq_some_iff.1 hi).1
  exact ((h.2 i _ u (List.getElem?_eq_getElem hlt) hi).one_ (List.all_eq_true.1 hs _ (List.getElem_mem hlt))).2
/-- The cells of a value. -/
theorem cells_ok {d : D} {v : Value} (hr : RV w S ρ H d v []) (hs : d.cells.all D.sc = true) : PR w S ρ H d.cells v.cells.toList := by
  by_cases hd : d.isAgg = true
  · cases d with
    | aggb l =>
      obtain rfl := inv_aggb hr
      exact PR.bytes l
    | agg cs =>
      obtain ⟨vs, rfl, hl, h⟩ := inv_agg hr
      exact ⟨hl, h⟩
    | _ => cases hd
  · have hcs : d.cells = [d] := by cases d <;> first | rfl | exact absurd rfl hd
    rw [hcs] at hs ⊢
    have hsc : d.sc = true := by simpa using hs
    have h1 := (hr.one_ hsc).2
    have hcv : v.cells = #[v] := by cases v <;> first | rfl | (simp [Value.oneCell'] at h1)
    rw [hcv]
    refine ⟨rfl, fun i c u h1 h2 => ?_⟩
    rcases i with _ | i
    · injection h1 with h1
      have h3 : v = u := by simpa using h2
      subst h1; subst h3
      exact hr
    · simp at h1

theorem fold_set : ∀ (xs : List Value) (k off : Nat) (cells : Array Value), off + k + xs.length ≤ cells.size →
    ((xs.zipIdx k).foldl (fun (cs : Array Value) (p : Value × Nat) => cs.setIfInBounds (off + p.2) p.1) cells).toList = cells.toList.take (off + k) ++ xs ++ cells.toList.drop (off + k + xs.length)
  | [], k, off, cells, h => by simp
  | x :: xs, k, off, cells, h => by
    have hi : off + k < cells.size := by simp at h; omega
    rw [List.zipIdx_cons, List.foldl_cons]
    have ih := fold_set xs (k + 1) off (cells.setIfInBounds (off + k) x) (by simp at h ⊢; omega)
    rw [ih]
    have e := list_seg_step cells.toList (off + k) x xs (by simp at h ⊢; omega)
    simpa [Array.toList_setIfInBounds, Nat.add_assoc] using e

/-- Parts put into cells. -/
def fillD (place : Nat → Option (Nat × Nat)) : List D → List (Nat × D) → Option (Prop × List D)
  | cs, [] => some (True, cs)
  | cs, (i, d) :: r =>
    match place i with
    | none => none
    | some (off, size) => (fillD place (cs.take off ++ d.cells ++ cs.drop (off + size)) r).map fun x => ((d.cells.length = size ∧ off + size ≤ cs.length ∧ d.cells.all D.sc = true ∧ x.1), x.2)
/-- Parts and their values. -/
def Parts (w : World) (S : Nat → Prop) (ρ : Nat → Pl) (H : Nat → Sh) (ps : List (Nat × D)) (qs : List (Nat × Value)) : Prop :=
  qs.length = ps.length ∧ ∀ (i : Nat) (p : Nat × D) (q : Nat × Value), ps[i]? = some p → qs[i]? = some q → q.1 = p.1 ∧ RV w S ρ H p.2 q.2 []
theorem fill_ok {place : Nat → Option (Nat × Nat)} : ∀ (ps : List (Nat × D)) (qs : List (Nat × Value)) (cs : List D) (vs : Array Value) (g : Prop) (cs' : List D), Parts w S ρ H ps qs → PR w S ρ H cs vs.toList → fillD place cs ps = some (g, cs') → g →
    ∃ vs', Instr.fill place vs qs = some vs' ∧ PR w S ρ H cs' vs'.toList
  | [], qs, cs, vs, g, cs', hp, hc, e, hg => by
    have : qs = [] := List.eq_nil_of_length_eq_zero (by simpa using hp.1)
    subst this
    injection e with e; injection e with e1 e2; subst e2
    exact ⟨vs, rfl, hc⟩
  | (i, d) :: r, qs, cs, vs, g, cs', hp, hc, e, hg => by
    rcases qs with _ | ⟨⟨j, v⟩, qs⟩
    · have := hp.1; simp at this
    · obtain ⟨h1, h2⟩ := hp.2 0 (i, d) (j, v) rfl rfl
      simp only at h1 h2
      subst h1
      unfold fillD at e
      rcases hpl : place j with _ | ⟨off, size⟩
      · rw [hpl] at e; cases e
      · rw [hpl] at e
        simp only [Option.map_eq_some_iff] at e
        obtain ⟨⟨g', cs2⟩, e1, e2⟩ := e
        injection e2 with e2 e3
        subst e2; subst e3
        obtain ⟨g1, g2, g3, g4⟩ := hg
        have hpr := cells_ok h2 g3
        have hvl : v.cells.size = size := by rw [← Array.length_toList, hpr.1, g1]
        have hvs : vs.size = cs.length := by rw [← Array.length_toList, hc.1]
        have hf := fold_set v.cells.toList 0 off vs (by rw [Array.length_toList]; omega)
        rw [Array.length_toList, hvl, Nat.add_zero] at hf
        obtain ⟨vs', h3, h4⟩ := fill_ok r qs _ (vs.toList.take off ++ v.cells.toList ++ vs.toList.drop (off + size)).toArray g' cs2 ⟨by simpa using hp.1, fun i p q h1 h2 => hp.2 (i + 1) p q (by simpa using h1) (by simpa using h2)⟩
          (by simpa using ((hc.take off).append hpr).append (hc.drop (off + size))) e1 g4
        refine ⟨vs', ?_, h4⟩
        rw [← h3]
        have hno : ¬ (v.cells.size ≠ size ∨ off + v.cells.size > vs.size) := by omega
        simp only [Instr.fill, hpl]
        rw [if_neg (by simpa using hno)]
        congr 1
        apply Array.ext'
        rw [← Array.foldl_toList, Array.toList_zipIdx]
        exact hf
end

/-- 'T{..}', '[n]T{..}' -/
def bldD (Ti : Nat → TI) (t : TypeId) (ps : List (Nat × D)) : Option (Prop × D) :=
  match (Ti t).ty with
  | .struct fs => (fillD (fun i => (fs[i]?).map fun f => (f.1, (Ti f.2).sz)) (Ti t).zero.cells ps).map fun r =>
      (((Ti t).zero.isAgg = true ∧ (Ti t).zero.cells.all D.sc = true ∧ fs.all (fun f => (Ti f.2).sz != 0) = true ∧ r.1), .agg r.2)
  | .arr n e => (fillD (fun i => some (i * (Ti e).sz, (Ti e).sz)) (Ti t).zero.cells ps).map fun r =>
      (((Ti t).zero.isAgg = true ∧ (Ti t).zero.cells.all D.sc = true ∧ (Ti e).sz ≠ 0 ∧ (isBA Ti t = true → r.2.all D.isU8 = true) ∧ r.1), aggD (isBA Ti t) r.2)
  | _ => none
/-- '[]T{..}', every place written. -/
def bslD (Ti : Nat → TI) (t : TypeId) (n : Nat) (ps : List (Nat × D)) : Option (Prop × Nat × Cont) :=
  match (Ti t).ty with
  | .slice e =>
    some ((ps.map (·.1) = List.range n ∧ 0 < (Ti e).sz ∧ n * (Ti e).sz ≤ 16777216 ∧ (Ti e).zero.cells.length = (Ti e).sz ∧ (Ti e).zero.cells.all D.sc = true ∧ (∀ p ∈ ps, p.2.cells.length = (Ti e).sz ∧ p.2.cells.all D.sc = true) ∧ ((Ti e).ty.isB = true → (ps.flatMap fun p => p.2.cells).all D.isU8 = true)),
      (Ti e).sz, ctOf (Ti e).ty.isB (ps.flatMap fun p => p.2.cells))
  | _ => none

section
variable {C : Ctx} {s : St} {ρ : Nat → Pl} {S : Nat → Prop} {Φ : Nat → List Nat} {w : World}
theorem zero_pr {P : Program} {t : TypeId} {H : Nat → Sh} (h1 : (tiOf P t).zero.isAgg = true ∨ (tiOf P t).zero ≠ .bot) (h2 : (tiOf P t).zero.cells.all D.sc = true) : ∃ i z, P.info? t = some i ∧ i.size = (tiOf P t).sz ∧ i.bytes = (tiOf P t).by_ ∧ i.zero = some z ∧ PR w S ρ H (tiOf P t).zero.cells z.cells.toList := by
  obtain ⟨i, z, hi, hs, hb, hz, hzv⟩ := ti_zero (P := P) (t := t) (by
    rcases h1 with h1 | h1
    · intro e; rw [e] at h1; cases h1
    · exact h1)
  refine ⟨i, z, hi, hs, hb, hz, ?_⟩
  have := cells_ok (w := w) (S := S) (ρ := ρ) (H := H) (d := (tiOf P t).zero) (v := z) (by rw [← hzv]; exact ofVal_ok z) h2
  exact this
theorem bld_ok {P : Program} {t : TypeId} {ps : List (Nat × D)} {qs : Array (Nat × Value)} {g : Prop} {d : D} {H : Nat → Sh} (e : bldD (tiOf P) t ps = some (g, d)) (hg : g) (hp : Parts w S ρ H ps qs.toList) :
    ∃ v, (Instr.build t qs).run P w = .ok v w ∧ RV w S ρ H d v [] := by
  unfold bldD at e
  split at e
  · rename_i fs ht
    rw [Option.map_eq_some_iff] at e
    obtain ⟨⟨g', cs'⟩, e1, e2⟩ := e
    injection e2 with e2 e3
    subst e2; subst e3
    obtain ⟨g1, g2, g3, g4⟩ := hg
    obtain ⟨i, z, hi, _, _, hz, hpr⟩ := zero_pr (w := w) (S := S) (ρ := ρ) (H := H) (.inl g1) g2
    obtain ⟨vs', h1, h2⟩ := fill_ok ps qs.toList _ z.cells g' cs' hp hpr e1 g4
    obtain ⟨fds, hu, hfs⟩ := ti_struct ht
    have hpl : ∀ (l : List Field), (∀ f ∈ l, (tiOf P f.type).sz ≠ 0) → l.mapM (fun f => (P.info? f.type).map fun i => (f.offset, i.size)) = some (l.map fun f => (f.offset, (tiOf P f.type).sz)) := by
      intro l
      induction l with
      | nil => intro _; rfl
      | cons f l ih =>
        intro h
        obtain ⟨j, hj, hj2⟩ := sz_ne (h f (by simp))
        simp [List.mapM_cons, hj, hj2, ih (fun f hf => h f (by simp [hf]))]
    have hpl2 := hpl fds.toList (fun f hf => by
      have h3 := List.all_eq_true.1 g3 (f.offset, f.type) (by rw [← hfs]; exact List.mem_map.2 ⟨f, hf, rfl⟩)
      simpa using h3)
    have hb : P.built t qs.toList = some vs' := by
      unfold Program.built
      simp only [hi, hu, hz, hpl2]
      rw [← h1]
      congr 1
      funext i
      rw [← hfs]
      simp [List.getElem?_map]
      cases fds[i]? <;> rfl
    refine ⟨_, run_build w t qs vs' hb, ?_⟩
    have := RV.agg0 h2.1 h2.2
    simpa using this
  · rename_i n el ht
    rw [Option.map_eq_some_iff] at e
    obtain ⟨⟨g', cs'⟩, e1, e2⟩ := e
    injection e2 with e2 e3
    subst e2; subst e3
    obtain ⟨g1, g2, g3, g5, g4⟩ := hg
    obtain ⟨i, z, hi, _, _, hz, hpr⟩ := zero_pr (w := w) (S := S) (ρ := ρ) (H := H) (.inl g1) g2
    obtain ⟨vs', h1, h2⟩ := fill_ok ps qs.toList _ z.cells g' cs' hp hpr e1 g4
    obtain ⟨j, hj, hj2⟩ := sz_ne g3
    have hb : P.built t qs.toList = some vs' := by
      unfold Program.built
      simp only [hi, ti_arr ht, hz, hj, hj2]
      exact h1
    refine ⟨_, run_build w t qs vs' hb, ?_⟩
    have := rv_aggD (ba := isBA (tiOf P) t) h2.1 g5 h2.2
    simpa using this
  · cases e

theorem pr_flat {H : Nat → Sh} {sz : Nat} : ∀ (ps : List (Nat × D)) (vs : List Value), vs.length = ps.length → (∀ p ∈ ps, p.2.cells.length = sz ∧ p.2.cells.all D.sc = true) → (∀ (i : Nat) (p : Nat × D) (v : Value), ps[i]? = some p → vs[i]? = some v → RV w S ρ H p.2 v []) →
    PR w S ρ H (ps.flatMap fun p => p.2.cells) (vs.flatMap fun v => v.cells.toList) ∧ ∀ v ∈ vs, v.cells.size = sz
  | [], vs, hl, _, _ => by
    have : vs = [] := List.eq_nil_of_length_eq_zero (by simpa using hl)
    subst this
    exact ⟨PR.nil, by simp⟩
  | p :: ps, vs, hl, hs, hr => by
    rcases vs with _ | ⟨v, vs⟩
    · simp at hl
    · have h0 := hs p (by simp)
      have hc := cells_ok (hr 0 p v rfl rfl) h0.2
      obtain ⟨h1, h2⟩ := pr_flat ps vs (by simpa using hl) (fun q hq => hs q (by simp [hq])) (fun i q u h1 h2 => hr (i + 1) q u (by simpa using h1) (by simpa using h2))
      refine ⟨by simpa [List.flatMap_cons] using hc.append h1, fun u hu => ?_⟩
      rcases List.mem_cons.1 hu with rfl | hu
      · rw [← Array.length_toList, hc.1, h0.1]
      · exact h2 u hu
theorem ctOf_fits {H : Nat → Sh} {ba : Bool} {cs : List D} {vs : List Value} (h : PR w S ρ H cs vs) (hb : ba = true → cs.all D.isU8 = true) : Fits w S ρ H vs.toArray (ctOf ba cs) ∧ (ctOf ba cs).len = vs.length := by
  unfold ctOf
  split
  · rename_i e
    have e1 := all_u8_of (hb e)
    generalize cs.map D.toU8 = l at *
    subst e1
    rw [vs_u8 (by simpa using h.1) h.2]
    refine ⟨fun i hi => ?_, by simp [Cont.len, u8s]⟩
    rw [List.getElem?_toArray, u8s_get, gb_of hi]
    rfl
  · refine ⟨fun i c u h1 h2 => h.2 i c u h1 ?_, h.1.symm⟩
    rwa [List.getElem?_toArray] at h2
theorem bsl_ok (h : RepW C s ρ S Φ w) (o : Nat) {t : TypeId} {n : Nat} {ps : List (Nat × D)} {qs : Array (Nat × Value)} {g : Prop} {esz : Nat} {c : Cont} (e : bslD (tiOf C.P) t n ps = some (g, esz, c)) (hg : g) (hp : Parts w S ρ s.sh ps qs.toList) :
    Outc C s S ρ w ((Instr.buildSlice t n qs).run C.P w) (s.lay1 o esz c) (.sl o ((s.sh o).gen + 1) 0 n) := by
  unfold bslD at e
  split at e
  · rename_i el ht
    injection e with e; injection e with e1 e2; injection e2 with e2 e3; subst e1; subst e2; subst e3
    obtain ⟨g1, g3, g4, g5, g6, g7, g8⟩ := hg
    rcases Nat.eq_zero_or_pos n with hn0 | g2
    · subst hn0
      have hps : ps = [] := by simpa using g1
      subst hps
      have hqs : qs = #[] := by
        have := hp.1
        apply Array.ext'
        exact List.eq_nil_of_length_eq_zero (by simpa using this)
      subst hqs
      obtain ⟨i, hi, hi2⟩ := sz_ne (P := C.P) (t := el) (by omega)
      have hso : (sizeOf el).run C.P w = .ok (tiOf C.P el).sz w := run_sizeOf hi (by omega)
      have hrun : (Instr.buildSlice t 0 #[]).run C.P w = .ok (.slice (some ⟨w.heap.size, 0, none⟩) 0 0) (w.alloc (.cells #[] el)) := by
        simp [Instr.buildSlice, run_underlying (ti_slice ht), hso, Instr.fill, newRow, Result.andThen]
        congr 2
        exact Array.ext' (by simp [Array.toList_range])
      obtain ⟨ρ', Φ', rfl, hw, hm⟩ := lay_new (w' := w.alloc (.cells #[] el)) h o (tiOf C.P el).sz (ctOf (tiOf C.P el).ty.isB []) #[] el (0, 0) rfl rfl rfl (by simp) (heap_alloc_new w _) (fun b hb => Below.heap_alloc w _ b hb) (Loose.zero _) (by unfold ctOf; split <;> simp [Cont.len]) (by unfold ctOf; split <;> simp [Fits])
      exact ⟨_, _, _, _, hrun, hw, hm, lay_sl o _ _ _ 0 0 (Nat.le_refl _) (by simp [maxLen]) (by simp) (by simp)⟩
    have hzne : (tiOf C.P el).zero ≠ .bot := fun e => by rw [e] at g6; simp [D.cells, D.sc] at g6
    obtain ⟨i, z, hi, hs, _, hz, hpr⟩ := zero_pr (w := w) (S := S) (ρ := ρ) (H := s.sh) (.inr hzne) g6
    have hpl : ps.length = n := by have := congrArg List.length g1; simpa using this
    have hl : qs.toList.length = n := by rw [hp.1, hpl]
    -- the parts in order
    have hq : qs.toList = ((qs.toList.map (·.2)).zipIdx 0).map fun x => (x.2, x.1) := by
      apply List.ext_getElem?
      intro j
      rcases Nat.lt_or_ge j n with hj | hj
      · have hjq : j < qs.toList.length := by omega
        have hjp : j < ps.length := by omega
        have h1 := (hp.2 j _ _ (List.getElem?_eq_getElem hjp) (List.getElem?_eq_getElem hjq)).1
        have h2 : ps[j].1 = j := by
          have := congrArg (fun l : List Nat => l[j]?) g1
          simpa [hjp, hj] using this
        have h3 : qs.toList[j].1 = j := by rw [h1, h2]
        rw [List.getElem?_eq_getElem hjq]
        have h4 : ((qs.toList.map (·.2)).zipIdx 0)[j]? = some (qs.toList[j].2, j) := by
          rw [List.getElem?_zipIdx, List.getElem?_map, List.getElem?_eq_getElem hjq]
          simp
        rw [List.getElem?_map, h4]
        show some qs.toList[j] = some (j, qs.toList[j].2)
        congr 1
        exact Prod.ext h3 rfl
      · rw [List.getElem?_eq_none (by omega), List.getElem?_eq_none (by rw [List.length_map, List.length_zipIdx, List.length_map]; omega)]
    obtain ⟨hf1, hf2⟩ := pr_flat (w := w) (S := S) (ρ := ρ) (H := s.sh) (sz := (tiOf C.P el).sz) ps (qs.toList.map (·.2)) (by simp; rw [← Array.length_toList]; omega) g7 (fun j p v h1 h2 => by
      rw [List.getElem?_map] at h2
      rcases hx : qs.toList[j]? with _ | q
      · rw [hx] at h2; cases h2
      · rw [hx] at h2
        injection h2 with h2
        subst h2
        exact (hp.2 j p q h1 hx).2)
    have hsz2 : ((Array.range (n * (tiOf C.P el).sz)).map (z.cells[· % z.cells.size]!)).size = n * (tiOf C.P el).sz := by simp
    have hfill : Instr.fill (fun i => some (i * (tiOf C.P el).sz, (tiOf C.P el).sz)) ((Array.range (n * (tiOf C.P el).sz)).map (z.cells[· % z.cells.size]!)) qs.toList = some ((qs.toList.map (·.2)).flatMap fun v => v.cells.toList).toArray := by
      have := Great.fill_whole g3 (qs.toList.map (·.2)) ((Array.range (n * (tiOf C.P el).sz)).map (z.cells[· % z.cells.size]!)) hf2 (by rw [hsz2, List.length_map, hl])
      rwa [← hq] at this
    have hpos : 0 < n * (tiOf C.P el).sz := Nat.mul_pos g2 g3
    have hrun := run_buildSlice w t el n qs _ i z (ti_slice ht) hi hz (by rw [hs]; omega) (by rw [hs]; omega) (by rw [hs]; exact hfill)
    obtain ⟨hfit, hlen⟩ := ctOf_fits hf1 g8
    have hlenn : ((qs.toList.map (·.2)).flatMap fun v => v.cells.toList).length = n * (tiOf C.P el).sz := by
      have : ∀ (vs : List Value), (∀ v ∈ vs, v.cells.size = (tiOf C.P el).sz) → (vs.flatMap fun v => v.cells.toList).length = vs.length * (tiOf C.P el).sz := by
        intro vs
        induction vs with
        | nil => intro _; simp
        | cons v vs ih =>
          intro hv
          rw [List.flatMap_cons, List.length_append, ih (fun u hu => hv u (by simp [hu])), Array.length_toList, hv v (by simp), List.length_cons, Nat.add_mul, Nat.one_mul, Nat.add_comm]
      rw [this _ hf2, List.length_map, hl]
    obtain ⟨ρ', Φ', rfl, hw, hm⟩ := lay_new (w' := w.alloc (.cells ((qs.toList.map (·.2)).flatMap fun v => v.cells.toList).toArray el)) h o (tiOf C.P el).sz (ctOf (tiOf C.P el).ty.isB (ps.flatMap fun p => p.2.cells)) _ el (0, 0) rfl rfl rfl (by simp) (heap_alloc_new w _) (fun b hb => Below.heap_alloc w _ b hb) (Loose.zero _) (by rw [hlen]; exact Nat.le_refl _) hfit
    refine ⟨_, _, _, _, hrun, hw, hm, lay_sl o _ _ _ n n (Nat.le_refl _) (by have := Nat.le_mul_of_pos_right n g3; simp [maxLen]; omega) (by rw [hlen, hlenn]; exact Nat.le_refl _) ?_⟩
    simp only [List.size_toArray, hlenn]
    omega
  · cases e

/-- 'make([]byte, n)' -/
theorem mk_ok (h : RepW C s ρ S Φ w) (o : Nat) {t e : TypeId} (ht : (tiOf C.P t).ty = .slice e) (he : (tiOf C.P e).zero = .u8 0) (hs1 : (tiOf C.P e).sz = 1) (hb1 : (tiOf C.P e).by_ = 1) {n : Int} (h0 : 0 ≤ n) (h1 : n ≤ 140737488355328) {k k' : IntKind} :
    Outc C s S ρ w ((Instr.makeSlice t (.int k n) (.int k' n)).run C.P w) (s.lay1 o 1 (.bytes (List.replicate n.toNat 0))) (.sl o ((s.sh o).gen + 1) 0 n.toNat) := by
  obtain ⟨i, z, hi, hs, hb, hz, hzv⟩ := ti_zero (P := C.P) (t := e) (by rw [he]; simp)
  have hr : RV w S ρ s.sh (.u8 0) z [] := by rw [← he, ← hzv]; exact ofVal_ok z
  have hzz := inv_u8 hr
  subst hzz
  have hrun := run_make (P := C.P) w t e i (u8 0) (ti_slice ht) hi hz k k' n n h0 (Int.le_refl _) (by rw [hb, hb1]; omega) (by omega)
  rw [hs, hs1, Nat.mul_one] at hrun
  have hl : (madeCells (u8 0).cells n.toNat).toList = u8s (List.replicate n.toNat 0) := by
    rw [show (u8 0).cells = #[u8 0] from rfl, toList_madeCells_one]
    simp [u8s]
  have hsz : (madeCells (u8 0).cells n.toNat).size = n.toNat := by rw [← Array.length_toList, hl]; simp [u8s]
  obtain ⟨ρ', Φ', rfl, hw, hm⟩ := lay_new (w' := w.alloc (.cells (madeCells (u8 0).cells n.toNat) e)) h o 1 (.bytes (List.replicate n.toNat 0)) _ e (0, 0) rfl rfl rfl (by simp) (heap_alloc_new w _) (fun b hb => Below.heap_alloc w _ b hb) (Loose.zero _) (by rw [hsz]; simp [Cont.len]) (fun i hi => by
    rw [← Array.getElem?_toList, hl, u8s_get, gb_of hi]
    rfl)
  refine ⟨_, _, _, _, hrun, hw, hm, lay_sl o _ _ _ _ _ (Nat.le_refl _) (by simp [maxLen]; omega) (by simp [Cont.len]) ?_⟩
  simp only [hsz]
  omega
/-- '[]byte(s)' -/
theorem s2b_ok (h : RepW C s ρ S Φ w) (o : Nat) {a b e : TypeId} (ha : (tiOf C.P a).ty = .str) (hb : (tiOf C.P b).ty = .slice e) (he : (tiOf C.P e).ty = .int .u8) {l : List UInt8} (hl : l.length ≤ 140737488355328) :
    Outc C s S ρ w ((convert a b (.string (str l))).run C.P w) (s.lay1 o 1 (.bytes l)) (.sl o ((s.sh o).gen + 1) 0 l.length) := by
  have hrun := Lib.run_convert_string_bytes (P := C.P) w a b e (str l) (ti_str ha) (ti_slice hb) (ti_int he)
  have hge := grownCap_ge w l.length 0 e
  have hm := grownCap_le_maxLen w l.length 0 e (by unfold maxLen; omega)
  have hsz : (Lib.bytesCells w e (str l)).size = grownCap w l.length 0 e := by
    have e1 : (str l).size = l.length := rfl
    simp only [Lib.bytesCells, Array.size_append, Array.size_map, Array.size_replicate, e1]
    have e2 : (str l).data.size = l.length := rfl
    rw [e2]
    omega
  have hget : ∀ i, i < l.length → (Lib.bytesCells w e (str l))[i]? = some (u8 (gb l i)) := fun i hi => by
    unfold Lib.bytesCells
    rw [Array.getElem?_append_left (by simp [str]; exact hi)]
    simp [str, hi, u8, gb, List.getD_eq_getElem?_getD]
  obtain ⟨ρ', Φ', rfl, hw, hm2⟩ := lay_new (w' := Lib.bytesWorld w e (str l)) h o 1 (.bytes l) _ e _ rfl rfl rfl (Lib.bytesWorld_size w e (str l)) (Lib.bytesWorld_at_new w e (str l)) (fun b hb => Lib.bytesWorld_at_old w e (str l) b hb) (.inl (Nat.le_refl _)) (by rw [hsz]; exact hge) hget
  refine ⟨_, _, _, _, hrun, hw, hm2, lay_sl o _ _ _ _ _ hge hm (by simp [Cont.len]) ?_⟩
  simp only [hsz, str_size]
  omega
/-- 'string(b)' -/
theorem b2s_ok (h : RepW C s ρ S Φ w) {a b e : TypeId} (ha : (tiOf C.P a).ty = .slice e) (hb : (tiOf C.P b).ty = .str) (he : (tiOf C.P e).ty = .int .u8) {d : D} {g : Prop} {l : List UInt8} {R : List Nat} (eb : byt s.ob d = some (g, l, R)) (hg : g) {v : Value} (hr : RV w S ρ s.sh d v []) :
    (convert a b v).run C.P w = .ok (.string (str l)) w := by
  obtain ⟨A, n, cap, rfl, hrd⟩ := byt_ok h eb hg hr
  obtain rfl := hrd.len
  rcases A with _ | ad
  · have : l = [] := by
      rcases Nat.eq_zero_or_pos l.length with h0 | h0
      · exact List.eq_nil_of_length_eq_zero h0
      · obtain ⟨_, _, h, _⟩ := hrd.cells h0
        cases h
    subst this
    exact run_convert_bytes_nil w a e (ti_slice ha) (ti_int he) 0 cap b (ti_str hb)
  · exact run_convert_bytes_back w a b e ad cap l (ti_slice ha) (ti_int he) (ti_str hb) (fun j hj => by
      have := hrd.news ad rfl j (u8 l[j]) (by rw [u8s_get, List.getElem?_eq_getElem hj]; rfl)
      exact this)
end
end Go.Proofs.Ytpmbdppppnbmnaa
