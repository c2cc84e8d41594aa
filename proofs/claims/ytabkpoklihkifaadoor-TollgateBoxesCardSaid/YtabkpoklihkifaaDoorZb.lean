/- What the claim leans on, text Zb: Lay, Fill, Store, App, Apnd, Mat, Con, Fc, Eff, Ops, Opw, Opc. No condition beyond what each lemma states. -/
import Derived.Test.YtabkpoklihkifaaDoorZa
import Derived.Laws.Tables
import Derived.Great.BuildSlice
import Derived.Laws.MakeOwn

/- Operations that lay new memory: boxes, literals, make, bytes of a string. Over any program. -/
namespace Go.Proofs.YtabkpoklihkifaaDoor
open Go Go.RowKit
set_option linter.unusedVariables false
set_option linter.unusedSimpArgs false

/-- An operation's outcome: a value that reads as d, in a world that stands for s'. -/
def Outc (C : Ctx) (s : St) (S : Nat → Prop) (ρ : Nat → Pl) (w : World) (r : Result Value) (s' : St) (d : D) : Prop :=
  ∃ v w' ρ' Φ', r = .ok v w' ∧ RepW C s' ρ' S Φ' w' ∧ (∀ d v, RV w S ρ s.sh d v [] → RV w' S ρ' s'.sh d v []) ∧ RV w' S ρ' s'.sh d v []

/-- The cells of a value. -/
def D.cells : D → List D
  | .aggb l => l.map D.u8
  | .agg cs => cs
  | d => [d]
def D.isAgg : D → Bool
  | .aggb _ | .agg _ => true
  | _ => false
/-- What a box of a value holds. -/
def boxC : D → Option Cont
  | .aggb l => some (.bytes l)
  | .agg cs => if cs.all D.sc then some (.cells cs) else none
  | .u8 x => some (.bytes [x])
  | d => if d.sc then some (.cells [d]) else none
/-- How many cells an element of a box of this type has. -/
def eszOf (Ti : Nat → TI) (t : TypeId) : Nat :=
  match (Ti t).ty with
  | .arr _ e => (Ti e).sz
  | _ => 1
def ctOf (ba : Bool) (cs : List D) : Cont := if ba then .bytes (cs.map D.toU8) else .cells cs
/-- The next making of an object. -/
def St.nxt (s : St) (o esz : Nat) (c : Cont) : Ob := ⟨⟨(s.sh o).gen + 1, esz, c.len⟩, some c⟩
def St.lay1 (s : St) (o esz : Nat) (c : Cont) : St := s.lay o (s.nxt o esz c)

section
variable {C : Ctx} {s : St} {ρ : Nat → Pl} {S : Nat → Prop} {Φ : Nat → List Nat} {w w' : World}

/-- Cells that stand for some content. -/
def Fits (w : World) (S : Nat → Prop) (ρ : Nat → Pl) (H : Nat → Sh) (cur : Array Value) : Cont → Prop
  | .bytes l => ∀ i, i < l.length → cur[i]? = some (u8 (gb l i))
  | .cells cs => ∀ (i : Nat) (c : D) (u : Value), cs[i]? = some c → cur[i]? = some u → RV w S ρ H c u []

theorem lay_new (h : RepW C s ρ S Φ w) (o esz : Nat) (c : Cont) (cur : Array Value) (E : TypeId) (fz : Nat × Nat) (hos : w'.os = w.os) (htape : w'.tape = w.tape) (hout : w'.output = w.output)
    (hsz : w'.heap.size = w.heap.size + 1) (hnew : w'.heap[w.heap.size]? = some (.cells cur E fz)) (hold : ∀ b, b < w.heap.size → w'.heap[b]? = w.heap[b]?) (hz : Loose fz cur.size) (hlen : c.len ≤ cur.size)
    (hc : Fits w S ρ s.sh cur c) :
    ∃ ρ' Φ', ρ' = upd ρ o ⟨w.heap.size, 0, cur.size⟩ ∧ RepW C (s.lay1 o esz c) ρ' S Φ' w' ∧ ∀ d v, RV w S ρ s.sh d v [] → RV w' S ρ' (s.lay1 o esz c).sh d v [] := by
  have hnS : ¬ S w.heap.size := fun e => by have := (h.s1 _ e).1; omega
  have hwS : ∀ b, S b → w'.heap[b]? = w.heap[b]? := fun b hb => hold b (h.s1 b hb).1
  have hmono : ∀ d v, RV w S ρ s.sh d v [] → RV w' S (upd ρ o ⟨w.heap.size, 0, cur.size⟩) (upd s.sh o (s.nxt o esz c).sh) d v [] := fun d v hr => by
    refine hr.mono (fun _ h => h) hwS (fun x => ?_) (by simp)
    by_cases hx : x = o
    · subst hx
      rw [upd_same, upd_same]
      refine ⟨by simp [St.nxt], fun e => ?_⟩
      simp [St.nxt] at e
    · rw [upd_other _ _ _ hx, upd_other _ _ _ hx]
      exact ⟨Nat.le_refl _, fun _ => ⟨rfl, rfl⟩⟩
  refine ⟨_, _, rfl, h.one o (s.nxt o esz c) ⟨w.heap.size, 0, cur.size⟩ [w.heap.size] hos htape hout (by omega) (Szs.same hold) (.inl (by simp [St.nxt])) (fun b hb _ => hold b hb) ?_ ?_⟩
  · intro c' hc'
    have e : c = c' := by simpa [St.nxt] using hc'
    subst e
    cases c with
    | bytes l => exact ⟨rfl, .inr ⟨cur, E, fz, [], hnew, hz, rfl, by simpa using hlen, rfl, rfl, fun i hi => by rw [Nat.zero_add]; exact hc i hi⟩⟩
    | cells cs =>
      refine ⟨rfl, .inr ⟨cur, E, fz, List.replicate cs.length [], hnew, hz, rfl, by simpa using hlen, by rw [flat_nil], by simp, fun i c u f h1 h2 h3 => ?_⟩⟩
      rw [List.getElem?_replicate] at h3
      split at h3
      · injection h3 with h3
        subst h3
        rw [Nat.zero_add] at h2
        exact hmono c u (hc i c u h1 h2)
      · cases h3
  · intro _
    refine ⟨by simp, fun b hb => ?_⟩
    obtain rfl : b = w.heap.size := by simpa using hb
    refine ⟨hnS, by omega, .inl h.size, fun e => by have := (Array.getElem?_eq_some_iff.1 (h.dk _ e)).1; omega, fun o' c' ho hc' hm => ?_⟩
    have := ((h.own o' c' hc').2 _ hm).2.1
    omega
theorem lay_ptr (o esz : Nat) (c : Cont) (p : Pl) (off : Nat) {S : Nat → Prop} {w : World} {ρ : Nat → Pl} : RV w S (upd ρ o p) (s.lay1 o esz c).sh (.ptr o ((s.sh o).gen + 1) off) (.pointer (some ⟨p.blk, p.base + off, none⟩)) [] := by
  have e : (s.lay1 o esz c).sh o = ⟨(s.sh o).gen + 1, esz, c.len⟩ := by
    unfold St.lay1
    rw [St.sh_lay, upd_same]
    rfl
  refine .ptr _ _ _ _ rfl (by rw [e]; exact Nat.le_refl _) (fun _ => by rw [upd_same])
theorem lay_sl (o esz : Nat) (c : Cont) (p : Pl) (n cap : Nat) {S : Nat → Prop} {w : World} {ρ : Nat → Pl} (hn : n ≤ cap) (hm : cap ≤ maxLen) (h1 : n * esz ≤ c.len) (h2 : p.base + cap * esz ≤ p.size) :
    RV w S (upd ρ o p) (s.lay1 o esz c).sh (.sl o ((s.sh o).gen + 1) 0 n) (.slice (some ⟨p.blk, p.base, none⟩) n cap) [] := by
  have e : (s.lay1 o esz c).sh o = ⟨(s.sh o).gen + 1, esz, c.len⟩ := by
    unfold St.lay1
    rw [St.sh_lay, upd_same]
    rfl
  refine .sl _ _ _ _ _ rfl (by rw [e]; exact Nat.le_refl _) (fun _ => ⟨_, _, rfl, hn, hm, by rw [e]; simpa using h1, .inr ⟨by rw [upd_same, Nat.add_zero], by rw [upd_same, e]; simpa using h2⟩⟩)

theorem boxC_fits {d : D} {c : Cont} (e : boxC d = some c) {v : Value} {H : Nat → Sh} (hr : RV w S ρ H d v []) : Fits w S ρ H v.cells c ∧ c.len = v.cells.size := by
  unfold boxC at e
  split at e
  · injection e with e; subst e
    rename_i l
    obtain rfl := inv_aggb hr
    refine ⟨fun i hi => ?_, by simp [Cont.len, Value.cells, u8s]⟩
    show (u8s l).toArray[i]? = _
    rw [List.getElem?_toArray, u8s_get, gb_of hi]
    rfl
  · split at e
    · injection e with e; subst e
      obtain ⟨vs, rfl, hl, hr⟩ := inv_agg hr
      refine ⟨fun i c u h1 h2 => hr i c u h1 ?_, by simp [Cont.len, Value.cells, hl]⟩
      have h3 : vs.toArray[i]? = some u := h2
      rwa [List.getElem?_toArray] at h3
    · cases e
  · injection e with e; subst e
    rename_i x
    obtain rfl := inv_u8 hr
    refine ⟨fun i hi => ?_, rfl⟩
    have : i = 0 := by simpa using hi
    subst this
    rfl
  · rename_i d' _ _ _
    split at e
    · rename_i hsc
      injection e with e; subst e
      have h1 := (hr.one_ hsc).2
      have hcv : v.cells = #[v] := by cases v <;> first | rfl | (simp [Value.oneCell'] at h1)
      refine ⟨fun i c u h1 h2 => ?_, by simp [Cont.len, hcv]⟩
      rw [hcv] at h2
      rcases i with _ | i
      · injection h1 with h1
        subst h1
        have : v = u := by simpa using h2
        subst this
        exact hr
      · simp at h1
    · cases e
theorem box_ok (h : RepW C s ρ S Φ w) (o : Nat) {t : TypeId} {d : D} {c : Cont} (e : boxC d = some c) {v : Value} (hr : RV w S ρ s.sh d v []) (esz : Nat) :
    Outc C s S ρ w ((Instr.box t v).run C.P w) (s.lay1 o esz c) (.ptr o ((s.sh o).gen + 1) 0) := by
  obtain ⟨h1, h2⟩ := boxC_fits e hr
  obtain ⟨ρ', Φ', rfl, hw, hm⟩ := lay_new (w' := w.alloc (.cells v.cells t)) h o esz c v.cells t (0, 0) rfl rfl rfl (by simp) (heap_alloc_new w _) (fun b hb => Below.heap_alloc w _ b hb) (Loose.zero _) (Nat.le_of_eq h2) h1
  refine ⟨.pointer (some ⟨w.heap.size, 0 + 0, none⟩), w.alloc (.cells v.cells t), _, Φ', ?_, hw, hm, lay_ptr o esz c _ 0⟩
  simp [Instr.box, newVar, newRow]
theorem alloc_ok (h : RepW C s ρ S Φ w) (o : Nat) {t : TypeId} {c : Cont} (e : boxC (tiOf C.P t).zero = some c) (esz : Nat) :
    Outc C s S ρ w ((Instr.alloc t true (.tuple #[])).run C.P w) (s.lay1 o esz c) (.ptr o ((s.sh o).gen + 1) 0) := by
  have hne : (tiOf C.P t).zero ≠ .bot := fun hb => by rw [hb] at e; cases e
  obtain ⟨i, z, hi, _, _, hz, hzv⟩ := ti_zero hne
  have hr : RV w S ρ s.sh (tiOf C.P t).zero z [] := by rw [← hzv]; exact ofVal_ok z
  obtain ⟨v, w', ρ', Φ', h1, h2⟩ := box_ok h o (t := t) e hr esz
  refine ⟨v, w', ρ', Φ', ?_, h2⟩
  rw [← h1]
  simp [Instr.alloc, zeroValue, typeInfo, hi, hz, Instr.box]
end
end Go.Proofs.YtabkpoklihkifaaDoor

/- Literals: structs, arrays and slices made of parts; make; the bytes of a string and back. Over any program. -/
namespace Go.Proofs.YtabkpoklihkifaaDoor
open Go Go.RowKit
set_option linter.unusedVariables false
set_option linter.unusedSimpArgs false

def Ty.isB : Ty → Bool
  | .int .u8 => true
  | _ => false
/-- Values one by one. -/
def PR (w : World) (S : Nat → Prop) (ρ : Nat → Pl) (H : Nat → Sh) (cs : List D) (vs : List Value) : Prop :=
  vs.length = cs.length ∧ ∀ (i : Nat) (c : D) (u : Value), cs[i]? = some c → vs[i]? = some u → RV w S ρ H c u []

section
variable {w : World} {S : Nat → Prop} {ρ : Nat → Pl} {H : Nat → Sh}
theorem PR.append {cs cs' : List D} {vs vs' : List Value} (h : PR w S ρ H cs vs) (h' : PR w S ρ H cs' vs') : PR w S ρ H (cs ++ cs') (vs ++ vs') := by
  refine ⟨by simp [h.1, h'.1], fun i c u h1 h2 => ?_⟩
  rw [List.getElem?_append] at h1 h2
  rw [h.1] at h2
  split at h1
  · rename_i hi; rw [if_pos hi] at h2; exact h.2 i c u h1 h2
  · rename_i hi; rw [if_neg hi] at h2; exact h'.2 _ c u h1 h2
theorem PR.take {cs : List D} {vs : List Value} (h : PR w S ρ H cs vs) (n : Nat) : PR w S ρ H (cs.take n) (vs.take n) := by
  refine ⟨by simp [h.1], fun i c u h1 h2 => ?_⟩
  rw [List.getElem?_take] at h1 h2
  split at h1
  · rename_i hi; rw [if_pos hi] at h2; exact h.2 i c u h1 h2
  · cases h1
theorem PR.drop {cs : List D} {vs : List Value} (h : PR w S ρ H cs vs) (n : Nat) : PR w S ρ H (cs.drop n) (vs.drop n) := by
  refine ⟨by simp [h.1], fun i c u h1 h2 => ?_⟩
  rw [List.getElem?_drop] at h1 h2
  exact h.2 _ c u h1 h2
theorem PR.nil : PR w S ρ H [] [] := ⟨rfl, fun i c u h => by simp at h⟩
theorem PR.bytes (l : List UInt8) : PR w S ρ H (l.map D.u8) (u8s l) := by
  refine ⟨by simp [u8s], fun i c u h1 h2 => ?_⟩
  rw [u8s_get] at h2
  rw [List.getElem?_map] at h1
  rcases hx : l[i]? with _ | x
  · rw [hx] at h1; cases h1
  · rw [hx] at h1 h2
    injection h1 with h1
    injection h2 with h2
    subst h1; subst h2
    exact .u8 _
theorem PR.one_ {cs : List D} {vs : List Value} (h : PR w S ρ H cs vs) (hs : cs.all D.sc = true) : ∀ u ∈ vs, u.oneCell' = true := by
  intro u hu
  obtain ⟨i, hi⟩ := List.getElem?_of_mem hu
  have hlt : i < cs.length := by rw [← h.1]; exact (List.getElem?_eq_some_iff.1 hi).1
  exact ((h.2 i _ u (List.getElem?_eq_getElem hlt) hi).one_ (List.all_eq_true.1 hs _ (List.getElem_mem hlt))).2
/-- The cells of a value. -/
theorem cells_ok {d : D} {v : Value} (hr : RV w S ρ H d v []) (hs : d.cells.all D.sc = true) : PR w S ρ H d.cells v.cells.toList := by
  by_cases hd : d.isAgg = true
  · cases d with
    | aggb l =>
      obtain rfl := inv_aggb hr
      exact PR.bytes l
    | agg cs =>
      obtain ⟨vs, rfl, hl, h⟩ := inv_agg hr
      exact ⟨hl, h⟩
    | _ => cases hd
  · have hcs : d.cells = [d] := by cases d <;> first | rfl | exact absurd rfl hd
    rw [hcs] at hs ⊢
    have hsc : d.sc = true := by simpa using hs
    have h1 := (hr.one_ hsc).2
    have hcv : v.cells = #[v] := by cases v <;> first | rfl | (simp [Value.oneCell'] at h1)
    rw [hcv]
    refine ⟨rfl, fun i c u h1 h2 => ?_⟩
    rcases i with _ | i
    · injection h1 with h1
      have h3 : v = u := by simpa using h2
      subst h1; subst h3
      exact hr
    · simp at h1

theorem fold_set : ∀ (xs : List Value) (k off : Nat) (cells : Array Value), off + k + xs.length ≤ cells.size →
    ((xs.zipIdx k).foldl (fun (cs : Array Value) (p : Value × Nat) => cs.setIfInBounds (off + p.2) p.1) cells).toList = cells.toList.take (off + k) ++ xs ++ cells.toList.drop (off + k + xs.length)
  | [], k, off, cells, h => by simp
  | x :: xs, k, off, cells, h => by
    have hi : off + k < cells.size := by simp at h; omega
    rw [List.zipIdx_cons, List.foldl_cons]
    have ih := fold_set xs (k + 1) off (cells.setIfInBounds (off + k) x) (by simp at h ⊢; omega)
    rw [ih]
    have e := list_seg_step cells.toList (off + k) x xs (by simp at h ⊢; omega)
    simpa [Array.toList_setIfInBounds, Nat.add_assoc] using e

/-- Parts put into cells. -/
def fillD (place : Nat → Option (Nat × Nat)) : List D → List (Nat × D) → Option (Prop × List D)
  | cs, [] => some (True, cs)
  | cs, (i, d) :: r =>
    match place i with
    | none => none
    | some (off, size) => (fillD place (cs.take off ++ d.cells ++ cs.drop (off + size)) r).map fun x => ((d.cells.length = size ∧ off + size ≤ cs.length ∧ d.cells.all D.sc = true ∧ x.1), x.2)
/-- Parts and their values. -/
def Parts (w : World) (S : Nat → Prop) (ρ : Nat → Pl) (H : Nat → Sh) (ps : List (Nat × D)) (qs : List (Nat × Value)) : Prop :=
  qs.length = ps.length ∧ ∀ (i : Nat) (p : Nat × D) (q : Nat × Value), ps[i]? = some p → qs[i]? = some q → q.1 = p.1 ∧ RV w S ρ H p.2 q.2 []
theorem fill_ok {place : Nat → Option (Nat × Nat)} : ∀ (ps : List (Nat × D)) (qs : List (Nat × Value)) (cs : List D) (vs : Array Value) (g : Prop) (cs' : List D), Parts w S ρ H ps qs → PR w S ρ H cs vs.toList → fillD place cs ps = some (g, cs') → g →
    ∃ vs', Instr.fill place vs qs = some vs' ∧ PR w S ρ H cs' vs'.toList
  | [], qs, cs, vs, g, cs', hp, hc, e, hg => by
    have : qs = [] := List.eq_nil_of_length_eq_zero (by simpa using hp.1)
    subst this
    injection e with e; injection e with e1 e2; subst e2
    exact ⟨vs, rfl, hc⟩
  | (i, d) :: r, qs, cs, vs, g, cs', hp, hc, e, hg => by
    rcases qs with _ | ⟨⟨j, v⟩, qs⟩
    · have := hp.1; simp at this
    · obtain ⟨h1, h2⟩ := hp.2 0 (i, d) (j, v) rfl rfl
      simp only at h1 h2
      subst h1
      unfold fillD at e
      rcases hpl : place j with _ | ⟨off, size⟩
      · rw [hpl] at e; cases e
      · rw [hpl] at e
        simp only [Option.map_eq_some_iff] at e
        obtain ⟨⟨g', cs2⟩, e1, e2⟩ := e
        injection e2 with e2 e3
        subst e2; subst e3
        obtain ⟨g1, g2, g3, g4⟩ := hg
        have hpr := cells_ok h2 g3
        have hvl : v.cells.size = size := by rw [← Array.length_toList, hpr.1, g1]
        have hvs : vs.size = cs.length := by rw [← Array.length_toList, hc.1]
        have hf := fold_set v.cells.toList 0 off vs (by rw [Array.length_toList]; omega)
        rw [Array.length_toList, hvl, Nat.add_zero] at hf
        obtain ⟨vs', h3, h4⟩ := fill_ok r qs _ (vs.toList.take off ++ v.cells.toList ++ vs.toList.drop (off + size)).toArray g' cs2 ⟨by simpa using hp.1, fun i p q h1 h2 => hp.2 (i + 1) p q (by simpa using h1) (by simpa using h2)⟩
          (by simpa using ((hc.take off).append hpr).append (hc.drop (off + size))) e1 g4
        refine ⟨vs', ?_, h4⟩
        rw [← h3]
        have hno : ¬ (v.cells.size ≠ size ∨ off + v.cells.size > vs.size) := by omega
        simp only [Instr.fill, hpl]
        rw [if_neg (by simpa using hno)]
        congr 1
        apply Array.ext'
        rw [← Array.foldl_toList, Array.toList_zipIdx]
        exact hf
end

/-- 'T{..}', '[n]T{..}' -/
def bldD (Ti : Nat → TI) (t : TypeId) (ps : List (Nat × D)) : Option (Prop × D) :=
  match (Ti t).ty with
  | .struct fs => (fillD (fun i => (fs[i]?).map fun f => (f.1, (Ti f.2).sz)) (Ti t).zero.cells ps).map fun r =>
      (((Ti t).zero.isAgg = true ∧ (Ti t).zero.cells.all D.sc = true ∧ fs.all (fun f => (Ti f.2).sz != 0) = true ∧ r.1), .agg r.2)
  | .arr n e => (fillD (fun i => some (i * (Ti e).sz, (Ti e).sz)) (Ti t).zero.cells ps).map fun r =>
      (((Ti t).zero.isAgg = true ∧ (Ti t).zero.cells.all D.sc = true ∧ (Ti e).sz ≠ 0 ∧ (isBA Ti t = true → r.2.all D.isU8 = true) ∧ r.1), aggD (isBA Ti t) r.2)
  | _ => none
/-- '[]T{..}', every place written. -/
def bslD (Ti : Nat → TI) (t : TypeId) (n : Nat) (ps : List (Nat × D)) : Option (Prop × Nat × Cont) :=
  match (Ti t).ty with
  | .slice e =>
    some ((ps.map (·.1) = List.range n ∧ 0 < (Ti e).sz ∧ n * (Ti e).sz ≤ 16777216 ∧ (Ti e).zero.cells.length = (Ti e).sz ∧ (Ti e).zero.cells.all D.sc = true ∧ (∀ p ∈ ps, p.2.cells.length = (Ti e).sz ∧ p.2.cells.all D.sc = true) ∧ ((Ti e).ty.isB = true → (ps.flatMap fun p => p.2.cells).all D.isU8 = true)),
      (Ti e).sz, ctOf (Ti e).ty.isB (ps.flatMap fun p => p.2.cells))
  | _ => none

section
variable {C : Ctx} {s : St} {ρ : Nat → Pl} {S : Nat → Prop} {Φ : Nat → List Nat} {w : World}
theorem zero_pr {P : Program} {t : TypeId} {H : Nat → Sh} (h1 : (tiOf P t).zero.isAgg = true ∨ (tiOf P t).zero ≠ .bot) (h2 : (tiOf P t).zero.cells.all D.sc = true) : ∃ i z, P.info? t = some i ∧ i.size = (tiOf P t).sz ∧ i.bytes = (tiOf P t).by_ ∧ i.zero = some z ∧ PR w S ρ H (tiOf P t).zero.cells z.cells.toList := by
  obtain ⟨i, z, hi, hs, hb, hz, hzv⟩ := ti_zero (P := P) (t := t) (by
    rcases h1 with h1 | h1
    · intro e; rw [e] at h1; cases h1
    · exact h1)
  refine ⟨i, z, hi, hs, hb, hz, ?_⟩
  have := cells_ok (w := w) (S := S) (ρ := ρ) (H := H) (d := (tiOf P t).zero) (v := z) (by rw [← hzv]; exact ofVal_ok z) h2
  exact this
theorem bld_ok {P : Program} {t : TypeId} {ps : List (Nat × D)} {qs : Array (Nat × Value)} {g : Prop} {d : D} {H : Nat → Sh} (e : bldD (tiOf P) t ps = some (g, d)) (hg : g) (hp : Parts w S ρ H ps qs.toList) :
    ∃ v, (Instr.build t qs).run P w = .ok v w ∧ RV w S ρ H d v [] := by
  unfold bldD at e
  split at e
  · rename_i fs ht
    rw [Option.map_eq_some_iff] at e
    obtain ⟨⟨g', cs'⟩, e1, e2⟩ := e
    injection e2 with e2 e3
    subst e2; subst e3
    obtain ⟨g1, g2, g3, g4⟩ := hg
    obtain ⟨i, z, hi, _, _, hz, hpr⟩ := zero_pr (w := w) (S := S) (ρ := ρ) (H := H) (.inl g1) g2
    obtain ⟨vs', h1, h2⟩ := fill_ok ps qs.toList _ z.cells g' cs' hp hpr e1 g4
    obtain ⟨fds, hu, hfs⟩ := ti_struct ht
    have hpl : ∀ (l : List Field), (∀ f ∈ l, (tiOf P f.type).sz ≠ 0) → l.mapM (fun f => (P.info? f.type).map fun i => (f.offset, i.size)) = some (l.map fun f => (f.offset, (tiOf P f.type).sz)) := by
      intro l
      induction l with
      | nil => intro _; rfl
      | cons f l ih =>
        intro h
        obtain ⟨j, hj, hj2⟩ := sz_ne (h f (by simp))
        simp [List.mapM_cons, hj, hj2, ih (fun f hf => h f (by simp [hf]))]
    have hpl2 := hpl fds.toList (fun f hf => by
      have h3 := List.all_eq_true.1 g3 (f.offset, f.type) (by rw [← hfs]; exact List.mem_map.2 ⟨f, hf, rfl⟩)
      simpa using h3)
    have hb : P.built t qs.toList = some vs' := by
      unfold Program.built
      simp only [hi, hu, hz, hpl2]
      rw [← h1]
      congr 1
      funext i
      rw [← hfs]
      simp [List.getElem?_map]
      cases fds[i]? <;> rfl
    refine ⟨_, run_build w t qs vs' hb, ?_⟩
    have := RV.agg0 h2.1 h2.2
    simpa using this
  · rename_i n el ht
    rw [Option.map_eq_some_iff] at e
    obtain ⟨⟨g', cs'⟩, e1, e2⟩ := e
    injection e2 with e2 e3
    subst e2; subst e3
    obtain ⟨g1, g2, g3, g5, g4⟩ := hg
    obtain ⟨i, z, hi, _, _, hz, hpr⟩ := zero_pr (w := w) (S := S) (ρ := ρ) (H := H) (.inl g1) g2
    obtain ⟨vs', h1, h2⟩ := fill_ok ps qs.toList _ z.cells g' cs' hp hpr e1 g4
    obtain ⟨j, hj, hj2⟩ := sz_ne g3
    have hb : P.built t qs.toList = some vs' := by
      unfold Program.built
      simp only [hi, ti_arr ht, hz, hj, hj2]
      exact h1
    refine ⟨_, run_build w t qs vs' hb, ?_⟩
    have := rv_aggD (ba := isBA (tiOf P) t) h2.1 g5 h2.2
    simpa using this
  · cases e

theorem pr_flat {H : Nat → Sh} {sz : Nat} : ∀ (ps : List (Nat × D)) (vs : List Value), vs.length = ps.length → (∀ p ∈ ps, p.2.cells.length = sz ∧ p.2.cells.all D.sc = true) → (∀ (i : Nat) (p : Nat × D) (v : Value), ps[i]? = some p → vs[i]? = some v → RV w S ρ H p.2 v []) →
    PR w S ρ H (ps.flatMap fun p => p.2.cells) (vs.flatMap fun v => v.cells.toList) ∧ ∀ v ∈ vs, v.cells.size = sz
  | [], vs, hl, _, _ => by
    have : vs = [] := List.eq_nil_of_length_eq_zero (by simpa using hl)
    subst this
    exact ⟨PR.nil, by simp⟩
  | p :: ps, vs, hl, hs, hr => by
    rcases vs with _ | ⟨v, vs⟩
    · simp at hl
    · have h0 := hs p (by simp)
      have hc := cells_ok (hr 0 p v rfl rfl) h0.2
      obtain ⟨h1, h2⟩ := pr_flat ps vs (by simpa using hl) (fun q hq => hs q (by simp [hq])) (fun i q u h1 h2 => hr (i + 1) q u (by simpa using h1) (by simpa using h2))
      refine ⟨by simpa [List.flatMap_cons] using hc.append h1, fun u hu => ?_⟩
      rcases List.mem_cons.1 hu with rfl | hu
      · rw [← Array.length_toList, hc.1, h0.1]
      · exact h2 u hu
theorem ctOf_fits {H : Nat → Sh} {ba : Bool} {cs : List D} {vs : List Value} (h : PR w S ρ H cs vs) (hb : ba = true → cs.all D.isU8 = true) : Fits w S ρ H vs.toArray (ctOf ba cs) ∧ (ctOf ba cs).len = vs.length := by
  unfold ctOf
  split
  · rename_i e
    have e1 := all_u8_of (hb e)
    generalize cs.map D.toU8 = l at *
    subst e1
    rw [vs_u8 (by simpa using h.1) h.2]
    refine ⟨fun i hi => ?_, by simp [Cont.len, u8s]⟩
    rw [List.getElem?_toArray, u8s_get, gb_of hi]
    rfl
  · refine ⟨fun i c u h1 h2 => h.2 i c u h1 ?_, h.1.symm⟩
    rwa [List.getElem?_toArray] at h2
theorem bsl_ok (h : RepW C s ρ S Φ w) (o : Nat) {t : TypeId} {n : Nat} {ps : List (Nat × D)} {qs : Array (Nat × Value)} {g : Prop} {esz : Nat} {c : Cont} (e : bslD (tiOf C.P) t n ps = some (g, esz, c)) (hg : g) (hp : Parts w S ρ s.sh ps qs.toList) :
    Outc C s S ρ w ((Instr.buildSlice t n qs).run C.P w) (s.lay1 o esz c) (.sl o ((s.sh o).gen + 1) 0 n) := by
  unfold bslD at e
  split at e
  · rename_i el ht
    injection e with e; injection e with e1 e2; injection e2 with e2 e3; subst e1; subst e2; subst e3
    obtain ⟨g1, g3, g4, g5, g6, g7, g8⟩ := hg
    rcases Nat.eq_zero_or_pos n with hn0 | g2
    · subst hn0
      have hps : ps = [] := by simpa using g1
      subst hps
      have hqs : qs = #[] := by
        have := hp.1
        apply Array.ext'
        exact List.eq_nil_of_length_eq_zero (by simpa using this)
      subst hqs
      obtain ⟨i, hi, hi2⟩ := sz_ne (P := C.P) (t := el) (by omega)
      have hso : (sizeOf el).run C.P w = .ok (tiOf C.P el).sz w := run_sizeOf hi (by omega)
      have hrun : (Instr.buildSlice t 0 #[]).run C.P w = .ok (.slice (some ⟨w.heap.size, 0, none⟩) 0 0) (w.alloc (.cells #[] el)) := by
        simp [Instr.buildSlice, run_underlying (ti_slice ht), hso, Instr.fill, newRow, Result.andThen]
        congr 2
        exact Array.ext' (by simp [Array.toList_range])
      obtain ⟨ρ', Φ', rfl, hw, hm⟩ := lay_new (w' := w.alloc (.cells #[] el)) h o (tiOf C.P el).sz (ctOf (tiOf C.P el).ty.isB []) #[] el (0, 0) rfl rfl rfl (by simp) (heap_alloc_new w _) (fun b hb => Below.heap_alloc w _ b hb) (Loose.zero _) (by unfold ctOf; split <;> simp [Cont.len]) (by unfold ctOf; split <;> simp [Fits])
      exact ⟨_, _, _, _, hrun, hw, hm, lay_sl o _ _ _ 0 0 (Nat.le_refl _) (by simp [maxLen]) (by simp) (by simp)⟩
    have hzne : (tiOf C.P el).zero ≠ .bot := fun e => by rw [e] at g6; simp [D.cells, D.sc] at g6
    obtain ⟨i, z, hi, hs, _, hz, hpr⟩ := zero_pr (w := w) (S := S) (ρ := ρ) (H := s.sh) (.inr hzne) g6
    have hpl : ps.length = n := by have := congrArg List.length g1; simpa using this
    have hl : qs.toList.length = n := by rw [hp.1, hpl]
    -- the parts in order
    have hq : qs.toList = ((qs.toList.map (·.2)).zipIdx 0).map fun x => (x.2, x.1) := by
      apply List.ext_getElem?
      intro j
      rcases Nat.lt_or_ge j n with hj | hj
      · have hjq : j < qs.toList.length := by omega
        have hjp : j < ps.length := by omega
        have h1 := (hp.2 j _ _ (List.getElem?_eq_getElem hjp) (List.getElem?_eq_getElem hjq)).1
        have h2 : ps[j].1 = j := by
          have := congrArg (fun l : List Nat => l[j]?) g1
          simpa [hjp, hj] using this
        have h3 : qs.toList[j].1 = j := by rw [h1, h2]
        rw [List.getElem?_eq_getElem hjq]
        have h4 : ((qs.toList.map (·.2)).zipIdx 0)[j]? = some (qs.toList[j].2, j) := by
          rw [List.getElem?_zipIdx, List.getElem?_map, List.getElem?_eq_getElem hjq]
          simp
        rw [List.getElem?_map, h4]
        show some qs.toList[j] = some (j, qs.toList[j].2)
        congr 1
        exact Prod.ext h3 rfl
      · rw [List.getElem?_eq_none (by omega), List.getElem?_eq_none (by rw [List.length_map, List.length_zipIdx, List.length_map]; omega)]
    obtain ⟨hf1, hf2⟩ := pr_flat (w := w) (S := S) (ρ := ρ) (H := s.sh) (sz := (tiOf C.P el).sz) ps (qs.toList.map (·.2)) (by simp; rw [← Array.length_toList]; omega) g7 (fun j p v h1 h2 => by
      rw [List.getElem?_map] at h2
      rcases hx : qs.toList[j]? with _ | q
      · rw [hx] at h2; cases h2
      · rw [hx] at h2
        injection h2 with h2
        subst h2
        exact (hp.2 j p q h1 hx).2)
    have hsz2 : ((Array.range (n * (tiOf C.P el).sz)).map (z.cells[· % z.cells.size]!)).size = n * (tiOf C.P el).sz := by simp
    have hfill : Instr.fill (fun i => some (i * (tiOf C.P el).sz, (tiOf C.P el).sz)) ((Array.range (n * (tiOf C.P el).sz)).map (z.cells[· % z.cells.size]!)) qs.toList = some ((qs.toList.map (·.2)).flatMap fun v => v.cells.toList).toArray := by
      have := Great.fill_whole g3 (qs.toList.map (·.2)) ((Array.range (n * (tiOf C.P el).sz)).map (z.cells[· % z.cells.size]!)) hf2 (by rw [hsz2, List.length_map, hl])
      rwa [← hq] at this
    have hpos : 0 < n * (tiOf C.P el).sz := Nat.mul_pos g2 g3
    have hrun := run_buildSlice w t el n qs _ i z (ti_slice ht) hi hz (by rw [hs]; omega) (by rw [hs]; omega) (by rw [hs]; exact hfill)
    obtain ⟨hfit, hlen⟩ := ctOf_fits hf1 g8
    have hlenn : ((qs.toList.map (·.2)).flatMap fun v => v.cells.toList).length = n * (tiOf C.P el).sz := by
      have : ∀ (vs : List Value), (∀ v ∈ vs, v.cells.size = (tiOf C.P el).sz) → (vs.flatMap fun v => v.cells.toList).length = vs.length * (tiOf C.P el).sz := by
        intro vs
        induction vs with
        | nil => intro _; simp
        | cons v vs ih =>
          intro hv
          rw [List.flatMap_cons, List.length_append, ih (fun u hu => hv u (by simp [hu])), Array.length_toList, hv v (by simp), List.length_cons, Nat.add_mul, Nat.one_mul, Nat.add_comm]
      rw [this _ hf2, List.length_map, hl]
    obtain ⟨ρ', Φ', rfl, hw, hm⟩ := lay_new (w' := w.alloc (.cells ((qs.toList.map (·.2)).flatMap fun v => v.cells.toList).toArray el)) h o (tiOf C.P el).sz (ctOf (tiOf C.P el).ty.isB (ps.flatMap fun p => p.2.cells)) _ el (0, 0) rfl rfl rfl (by simp) (heap_alloc_new w _) (fun b hb => Below.heap_alloc w _ b hb) (Loose.zero _) (by rw [hlen]; exact Nat.le_refl _) hfit
    refine ⟨_, _, _, _, hrun, hw, hm, lay_sl o _ _ _ n n (Nat.le_refl _) (by have := Nat.le_mul_of_pos_right n g3; simp [maxLen]; omega) (by rw [hlen, hlenn]; exact Nat.le_refl _) ?_⟩
    simp only [List.size_toArray, hlenn]
    omega
  · cases e

/-- 'make([]byte, n)' -/
theorem mk_ok (h : RepW C s ρ S Φ w) (o : Nat) {t e : TypeId} (ht : (tiOf C.P t).ty = .slice e) (he : (tiOf C.P e).zero = .u8 0) (hs1 : (tiOf C.P e).sz = 1) (hb1 : (tiOf C.P e).by_ = 1) {n : Int} (h0 : 0 ≤ n) (h1 : n ≤ 140737488355328) {k k' : IntKind} :
    Outc C s S ρ w ((Instr.makeSlice t (.int k n) (.int k' n)).run C.P w) (s.lay1 o 1 (.bytes (List.replicate n.toNat 0))) (.sl o ((s.sh o).gen + 1) 0 n.toNat) := by
  obtain ⟨i, z, hi, hs, hb, hz, hzv⟩ := ti_zero (P := C.P) (t := e) (by rw [he]; simp)
  have hr : RV w S ρ s.sh (.u8 0) z [] := by rw [← he, ← hzv]; exact ofVal_ok z
  have hzz := inv_u8 hr
  subst hzz
  have hrun := run_make (P := C.P) w t e i (u8 0) (ti_slice ht) hi hz k k' n n h0 (Int.le_refl _) (by rw [hb, hb1]; omega) (by omega)
  rw [hs, hs1, Nat.mul_one] at hrun
  have hl : (madeCells (u8 0).cells n.toNat).toList = u8s (List.replicate n.toNat 0) := by
    rw [show (u8 0).cells = #[u8 0] from rfl, toList_madeCells_one]
    simp [u8s]
  have hsz : (madeCells (u8 0).cells n.toNat).size = n.toNat := by rw [← Array.length_toList, hl]; simp [u8s]
  obtain ⟨ρ', Φ', rfl, hw, hm⟩ := lay_new (w' := w.alloc (.cells (madeCells (u8 0).cells n.toNat) e)) h o 1 (.bytes (List.replicate n.toNat 0)) _ e (0, 0) rfl rfl rfl (by simp) (heap_alloc_new w _) (fun b hb => Below.heap_alloc w _ b hb) (Loose.zero _) (by rw [hsz]; simp [Cont.len]) (fun i hi => by
    rw [← Array.getElem?_toList, hl, u8s_get, gb_of hi]
    rfl)
  refine ⟨_, _, _, _, hrun, hw, hm, lay_sl o _ _ _ _ _ (Nat.le_refl _) (by simp [maxLen]; omega) (by simp [Cont.len]) ?_⟩
  simp only [hsz]
  omega
/-- '[]byte(s)' -/
theorem s2b_ok (h : RepW C s ρ S Φ w) (o : Nat) {a b e : TypeId} (ha : (tiOf C.P a).ty = .str) (hb : (tiOf C.P b).ty = .slice e) (he : (tiOf C.P e).ty = .int .u8) {l : List UInt8} (hl : l.length ≤ 140737488355328) :
    Outc C s S ρ w ((convert a b (.string (str l))).run C.P w) (s.lay1 o 1 (.bytes l)) (.sl o ((s.sh o).gen + 1) 0 l.length) := by
  have hrun := Lib.run_convert_string_bytes (P := C.P) w a b e (str l) (ti_str ha) (ti_slice hb) (ti_int he)
  have hge := grownCap_ge w l.length 0 e
  have hm := grownCap_le_maxLen w l.length 0 e (by unfold maxLen; omega)
  have hsz : (Lib.bytesCells w e (str l)).size = grownCap w l.length 0 e := by
    have e1 : (str l).size = l.length := rfl
    simp only [Lib.bytesCells, Array.size_append, Array.size_map, Array.size_replicate, e1]
    have e2 : (str l).data.size = l.length := rfl
    rw [e2]
    omega
  have hget : ∀ i, i < l.length → (Lib.bytesCells w e (str l))[i]? = some (u8 (gb l i)) := fun i hi => by
    unfold Lib.bytesCells
    rw [Array.getElem?_append_left (by simp [str]; exact hi)]
    simp [str, hi, u8, gb, List.getD_eq_getElem?_getD]
  obtain ⟨ρ', Φ', rfl, hw, hm2⟩ := lay_new (w' := Lib.bytesWorld w e (str l)) h o 1 (.bytes l) _ e _ rfl rfl rfl (Lib.bytesWorld_size w e (str l)) (Lib.bytesWorld_at_new w e (str l)) (fun b hb => Lib.bytesWorld_at_old w e (str l) b hb) (.inl (Nat.le_refl _)) (by rw [hsz]; exact hge) hget
  refine ⟨_, _, _, _, hrun, hw, hm2, lay_sl o _ _ _ _ _ hge hm (by simp [Cont.len]) ?_⟩
  simp only [hsz, str_size]
  omega
/-- 'string(b)' -/
theorem b2s_ok (h : RepW C s ρ S Φ w) {a b e : TypeId} (ha : (tiOf C.P a).ty = .slice e) (hb : (tiOf C.P b).ty = .str) (he : (tiOf C.P e).ty = .int .u8) {d : D} {g : Prop} {l : List UInt8} {R : List Nat} (eb : byt s.ob d = some (g, l, R)) (hg : g) {v : Value} (hr : RV w S ρ s.sh d v []) :
    (convert a b v).run C.P w = .ok (.string (str l)) w := by
  obtain ⟨A, n, cap, rfl, hrd⟩ := byt_ok h eb hg hr
  obtain rfl := hrd.len
  rcases A with _ | ad
  · have : l = [] := by
      rcases Nat.eq_zero_or_pos l.length with h0 | h0
      · exact List.eq_nil_of_length_eq_zero h0
      · obtain ⟨_, _, h, _⟩ := hrd.cells h0
        cases h
    subst this
    exact run_convert_bytes_nil w a e (ti_slice ha) (ti_int he) 0 cap b (ti_str hb)
  · exact run_convert_bytes_back w a b e ad cap l (ti_slice ha) (ti_int he) (ti_str hb) (fun j hj => by
      have := hrd.news ad rfl j (u8 l[j]) (by rw [u8s_get, List.getElem?_eq_getElem hj]; rfl)
      exact this)
end
end Go.Proofs.YtabkpoklihkifaaDoor

/- Operations that write: stores, copy, append. Over any program. -/
namespace Go.Proofs.YtabkpoklihkifaaDoor
open Go Go.RowKit
set_option linter.unusedVariables false
set_option linter.unusedSimpArgs false

/-- Some cells written over. -/
def Cont.splice (c : Cont) (off : Nat) (ds : List D) : Cont :=
  match c with
  | .bytes l => .bytes (l.take off ++ ds.map D.toU8 ++ l.drop (off + ds.length))
  | .cells cs => .cells (cs.take off ++ ds ++ cs.drop (off + ds.length))
def Cont.ok (c : Cont) (ds : List D) : Prop :=
  match c with
  | .bytes _ => ds.all D.isU8 = true
  | .cells _ => ds.all D.sc = true
theorem Cont.splice_len (c : Cont) (off : Nat) (ds : List D) (h : off + ds.length ≤ c.len) : (c.splice off ds).len = c.len := by
  cases c <;> simp [Cont.splice, Cont.len] at h ⊢ <;> omega
theorem u8_of_sc {ds : List D} (h : ds.all D.isU8 = true) : ds.all D.sc = true := by
  rw [all_u8_of h]
  exact u8_sc _

section
variable {C : Ctx} {s : St} {ρ : Nat → Pl} {S : Nat → Prop} {Φ : Nat → List Nat} {w w' : World}

theorem upd_self {α : Type} (f : Nat → α) (a : Nat) : upd f a (f a) = f := by
  funext x
  unfold upd
  split
  · rename_i e; rw [e]
  · rfl
theorem flat_sub (Fs : List (List Nat)) (off n : Nat) : (Fs.take off ++ List.replicate n [] ++ Fs.drop (off + n)).flatten.Sublist Fs.flatten := by
  have e : Fs.flatten = (Fs.take off).flatten ++ (((Fs.drop off).take n).flatten ++ (Fs.drop (off + n)).flatten) := by
    rw [← List.flatten_append, ← List.drop_drop, List.take_append_drop, ← List.flatten_append, List.take_append_drop]
  rw [e, List.flatten_append, List.flatten_append, flat_nil, List.append_nil]
  exact List.Sublist.append (List.Sublist.refl _) (List.sublist_append_right _ _)

theorem get_splice {α : Type} (l m : List α) (off i : Nat) (hl : off + m.length ≤ l.length) : (l.take off ++ m ++ l.drop (off + m.length))[i]? = if i < off then l[i]? else if i < off + m.length then m[i - off]? else l[i]? := by
  have hl1 : (l.take off).length = off := by rw [List.length_take]; omega
  rw [List.append_assoc, List.getElem?_append, hl1]
  by_cases h1 : i < off
  · rw [if_pos h1, if_pos h1, List.getElem?_take, if_pos h1]
  · rw [if_neg h1, if_neg h1, List.getElem?_append]
    by_cases h2 : i < off + m.length
    · rw [if_pos (by omega), if_pos h2]
    · rw [if_neg (by omega), if_neg h2, List.getElem?_drop]
      congr 1
      omega
/-- Cells of an object are written. -/
theorem splice_ok (h : RepW C s ρ S Φ w) {o : Nat} {c : Cont} (ho : (s.ob o).ct = some c) (off : Nat) {ds : List D} {vs : List Value} (hp : PR w S ρ s.sh ds vs) (hc : c.ok ds) (hl : off + ds.length ≤ c.len) (h0 : 0 < ds.length) (P : Program) :
    ∃ w' Φ', (storeCells ⟨(ρ o).blk, (ρ o).base + off, none⟩ vs 0).run P w = .ok () w' ∧ RepW C (s.lay o ⟨s.sh o, some (c.splice off ds)⟩) ρ S Φ' w' ∧ (∀ d v, RV w S ρ s.sh d v [] → RV w' S ρ (s.lay o ⟨s.sh o, some (c.splice off ds)⟩).sh d v []) := by
  have hsc : ds.all D.sc = true := by cases c with | bytes l => exact u8_of_sc hc | cells cs => exact hc
  obtain ⟨hcl, h2⟩ := h.ob o c ho
  rcases h2 with ⟨h1, _⟩ | ⟨cur, E, fz, Fs, hh, hz, hs, hb, hF, hct⟩
  · omega
  · have hst := run_storeCells_loose P (ρ o).blk ((ρ o).base + off) E fz vs 0 cur w hh hz (by rw [hp.1]; omega) (hp.one_ hsc)
    simp only [Nat.add_zero] at hst
    have hsz : (cur.toList.take ((ρ o).base + off) ++ vs ++ cur.toList.drop ((ρ o).base + off + vs.length)).toArray.size = cur.size := by
      simp only [List.size_toArray, List.length_append, List.length_take, List.length_drop, Array.length_toList, hp.1]
      omega
    have hw0 : ∀ b, b ≠ (ρ o).blk → (w.setRow (ρ o).blk (cur.toList.take ((ρ o).base + off) ++ vs ++ cur.toList.drop ((ρ o).base + off + vs.length)).toArray).heap[b]? = w.heap[b]? := fun b hb => setRow_other w _ b _ hb
    have hwS : ∀ b, S b → (w.setRow (ρ o).blk (cur.toList.take ((ρ o).base + off) ++ vs ++ cur.toList.drop ((ρ o).base + off + vs.length)).toArray).heap[b]? = w.heap[b]? := fun b hb => hw0 b (fun e => by
      have := ((h.own o c ho).2 (ρ o).blk (by rw [hF]; simp)).1
      exact this (e ▸ hb))
    have hget : ∀ i, (cur.toList.take ((ρ o).base + off) ++ vs ++ cur.toList.drop ((ρ o).base + off + vs.length)).toArray[(ρ o).base + i]? = if i < off then cur[(ρ o).base + i]? else if i < off + ds.length then vs[i - off]? else cur[(ρ o).base + i]? := by
      intro i
      have hl1 : (cur.toList.take ((ρ o).base + off)).length = (ρ o).base + off := by rw [List.length_take, Array.length_toList]; omega
      rw [List.getElem?_toArray, List.append_assoc, List.getElem?_append, hl1]
      by_cases h1 : i < off
      · rw [if_pos (by omega), if_pos h1, List.getElem?_take, if_pos (by omega), Array.getElem?_toList]
      · rw [if_neg (by omega), if_neg h1, List.getElem?_append, hp.1]
        by_cases h2 : i < off + ds.length
        · rw [if_pos (by omega), if_pos h2]
          congr 1
          omega
        · rw [if_neg (by omega), if_neg h2, List.getElem?_drop, Array.getElem?_toList]
          congr 1
          omega
    have hshh : upd s.sh o (⟨s.sh o, some (c.splice off ds)⟩ : Ob).sh = s.sh := upd_self s.sh o
    generalize hW : w.setRow (ρ o).blk (cur.toList.take ((ρ o).base + off) ++ vs ++ cur.toList.drop ((ρ o).base + off + vs.length)).toArray = W at *
    have hmono : ∀ {d v F}, RV w S ρ s.sh d v F → (∀ b ∈ F, b ≠ (ρ o).blk) → RV W S ρ s.sh d v F := fun hr hne => hr.mono (fun _ h => h) hwS (fun o => ⟨Nat.le_refl _, fun _ => ⟨rfl, rfl⟩⟩) (fun b hb => hw0 b (hne b hb))
    have hone := h.one (w' := W) o ⟨s.sh o, some (c.splice off ds)⟩ (ρ o) (match c with | .bytes _ => Φ o | .cells _ => (ρ o).blk :: (Fs.take off ++ List.replicate ds.length [] ++ Fs.drop (off + ds.length)).flatten)
      (by rw [← hW]; rfl) (by rw [← hW]; rfl) (by rw [← hW]; rfl) (by rw [← hW]; simp) (by
        intro b cur' E' fz' hb'
        by_cases hbb : b = (ρ o).blk
        · subst hbb
          rw [hh] at hb'
          injection hb' with hb'
          injection hb' with e1 e2 e3
          subst e1
          exact ⟨_, E, fz, by rw [← hW]; exact setRow_heap w _ cur _ E fz hh, hsz⟩
        · exact ⟨cur', E', fz', (hw0 b hbb).trans hb', rfl⟩) (.inr ⟨rfl, rfl⟩) (fun b hb hn => hw0 b (fun e => hn (by rw [ho]; rfl) (by rw [hF, e]; simp))) ?_ ?_
    · rw [upd_self] at hone
      exact ⟨W, _, hst, hone.1, hone.2⟩
    · intro c' hc'
      have e : c.splice off ds = c' := by simpa using hc'
      subst e
      rw [hshh, upd_self]
      refine ⟨by rw [Cont.splice_len c off ds hl]; exact hcl, .inr ?_⟩
      have hheap : W.heap[(ρ o).blk]? = some (.cells (cur.toList.take ((ρ o).base + off) ++ vs ++ cur.toList.drop ((ρ o).base + off + vs.length)).toArray E fz) := by rw [← hW]; exact setRow_heap w _ cur _ E fz hh
      cases c with
      | bytes l =>
        refine ⟨_, E, fz, Fs, hheap, by rw [hsz]; exact hz, by rw [hsz]; exact hs, by rw [Cont.splice_len _ off ds hl]; exact hb, hF, hct.1, fun i hi => ?_⟩
        have e1 := all_u8_of hc
        generalize ds.map D.toU8 = m at *
        subst e1
        have hm : vs = u8s m := vs_u8 (by simpa using hp.1) hp.2
        subst hm
        have hl' : off + m.length ≤ l.length := by simpa [Cont.len] using hl
        have hi' : i < l.length := by
          simp at hi
          omega
        rw [hget]
        simp only [List.length_map]
        have hg : (l.take off ++ m ++ l.drop (off + m.length))[i]? = some (gb (l.take off ++ m ++ l.drop (off + m.length)) i) := gb_of (by simp; omega)
        have hg2 := get_splice l m off i hl'
        rw [hg] at hg2
        by_cases h1 : i < off
        · rw [if_pos h1] at hg2 ⊢
          rw [hct.2 i hi', gb_get hg2.symm]
        · rw [if_neg h1] at hg2 ⊢
          by_cases h2 : i < off + m.length
          · rw [if_pos h2] at hg2 ⊢
            rw [u8s_get, ← hg2]
            rfl
          · rw [if_neg h2] at hg2 ⊢
            rw [hct.2 i hi', gb_get hg2.symm]
      | cells cs =>
        have hl' : off + ds.length ≤ cs.length := hl
        have hfl : Fs.length = cs.length := hct.1
        refine ⟨_, E, fz, Fs.take off ++ List.replicate ds.length [] ++ Fs.drop (off + ds.length), hheap, by rw [hsz]; exact hz, by rw [hsz]; exact hs, by rw [Cont.splice_len _ off ds hl]; exact hb, rfl, by simp [Cont.splice]; omega, fun i c u f h1 h2 h3 => ?_⟩
        rw [hget] at h2
        have h1' := get_splice cs ds off i hl'
        have h3' := get_splice Fs (List.replicate ds.length []) off i (by simp; omega)
        rw [List.length_replicate] at h3'
        have h1'' : (cs.take off ++ ds ++ cs.drop (off + ds.length))[i]? = some c := h1
        rw [h1''] at h1'
        rw [h3] at h3'
        have hkeep : ∀ {c u f}, cs[i]? = some c → cur[(ρ o).base + i]? = some u → Fs[i]? = some f → RV W S ρ s.sh c u f := fun {c u f} q1 q2 q3 => hmono (hct.2 i c u f q1 q2 q3) (fun b hb e => by
          have hn := (h.own o _ ho).1
          rw [hF, List.nodup_cons] at hn
          exact hn.1 (e ▸ mem_flat_of q3 hb))
        by_cases hi1 : i < off
        · rw [if_pos hi1] at h1' h2 h3'
          exact hkeep h1'.symm h2 h3'.symm
        · rw [if_neg hi1] at h1' h2 h3'
          by_cases hi2 : i < off + ds.length
          · rw [if_pos hi2] at h1' h2 h3'
            rw [List.getElem?_replicate] at h3'
            split at h3'
            · injection h3' with h3'
              subst h3'
              exact hmono (hp.2 _ c u h1'.symm h2) (by simp)
            · cases h3'
          · rw [if_neg hi2] at h1' h2 h3'
            exact hkeep h1'.symm h2 h3'.symm
    · intro _
      have hno := h.own o c ho
      have hsub : ∀ b, b ∈ Φ o → ¬ S b ∧ b < W.heap.size ∧ (C.w0.heap.size ≤ b ∨ b ∈ C.M) ∧ b ∉ s.dk ∧ ∀ o' c', o' ≠ o → (s.ob o').ct = some c' → b ∉ Φ o' := fun b hb =>
        ⟨(hno.2 b hb).1, by rw [← hW]; simpa using (hno.2 b hb).2.1, (hno.2 b hb).2.2.1, (hno.2 b hb).2.2.2, fun o' c' hne hc' => h.dis o o' c c' ho hc' (Ne.symm hne) b hb⟩
      cases c with
      | bytes l => exact ⟨hno.1, hsub⟩
      | cells cs =>
        have hss : ((ρ o).blk :: (Fs.take off ++ List.replicate ds.length [] ++ Fs.drop (off + ds.length)).flatten).Sublist (Φ o) := by
          rw [hF]
          exact List.Sublist.cons_cons _ (flat_sub Fs off ds.length)
        exact ⟨hss.nodup hno.1, fun b hb => hsub b (hss.subset hb)⟩

/-- 'x = y' through an address. -/
def stoD (Ti : Nat → TI) (O : Nat → Ob) (t : TypeId) (x y : D) : Option (Prop × Nat × Ob × List Nat) :=
  match x with
  | .ptr o g off =>
    match (O o).ct, y with
    | some (.bytes l), .u8 b => some ((g = (O o).sh.gen ∧ (Ti t).sz = 1 ∧ off < l.length), o, ⟨(O o).sh, some (.bytes (l.set off b))⟩, [o])
    | some (.bytes l), .aggb m => some ((g = (O o).sh.gen ∧ 0 < m.length ∧ (Ti t).sz = m.length ∧ off + m.length ≤ l.length), o, ⟨(O o).sh, some (.bytes (l.take off ++ m ++ l.drop (off + m.length)))⟩, [o])
    | some (.cells cs), y =>
      if y.isAgg then some ((g = (O o).sh.gen ∧ 0 < y.cells.length ∧ (Ti t).sz = y.cells.length ∧ y.cells.all D.sc = true ∧ off + y.cells.length ≤ cs.length), o, ⟨(O o).sh, some (.cells (cs.take off ++ y.cells ++ cs.drop (off + y.cells.length)))⟩, [o])
      else some ((g = (O o).sh.gen ∧ (Ti t).sz = 1 ∧ y.sc = true ∧ off < cs.length), o, ⟨(O o).sh, some (.cells (cs.set off y))⟩, [o])
    | _, _ => none
  | _ => none
theorem set_splice {α : Type} (l : List α) (off : Nat) (x : α) (h : off < l.length) : l.set off x = l.take off ++ [x] ++ l.drop (off + [x].length) := by
  rw [List.set_eq_take_append_cons_drop, if_pos h]
  simp
theorem notAgg_cells {d : D} (h : ¬ d.isAgg = true) : d.cells = [d] := by cases d <;> first | rfl | exact absurd rfl h
theorem sto_ok (h : RepW C s ρ S Φ w) {t : TypeId} {x y : D} {g : Prop} {o : Nat} {ob : Ob} {R : List Nat} (e : stoD (tiOf C.P) s.ob t x y = some (g, o, ob, R)) (hg : g) {vx vy : Value} (hx : RV w S ρ s.sh x vx []) (hy : RV w S ρ s.sh y vy []) :
    ∃ w' Φ', (Instr.storeAt t vx vy).run C.P w = .ok () w' ∧ RepW C (s.lay o ob) ρ S Φ' w' ∧ (∀ d v, RV w S ρ s.sh d v [] → RV w' S ρ (s.lay o ob).sh d v []) := by
  have key : ∀ {o : Nat} {off : Nat} {c : Cont} {y : D}, (s.ob o).ct = some c → RV w S ρ s.sh y vy [] → c.ok y.cells → off + y.cells.length ≤ c.len → 0 < y.cells.length → (tiOf C.P t).sz = y.cells.length →
      ∃ w' Φ', (Instr.storeAt t (.pointer (some ⟨(ρ o).blk, (ρ o).base + off, none⟩)) vy).run C.P w = .ok () w' ∧ RepW C (s.lay o ⟨s.sh o, some (c.splice off y.cells)⟩) ρ S Φ' w' ∧ (∀ d v, RV w S ρ s.sh d v [] → RV w' S ρ (s.lay o ⟨s.sh o, some (c.splice off y.cells)⟩).sh d v []) := by
    intro o off c y hc hy hok hl h0 hsz
    have hsc : y.cells.all D.sc = true := by cases c with | bytes l => exact u8_of_sc hok | cells cs => exact hok
    have hp := cells_ok hy hsc
    obtain ⟨w', Φ', h1, h2, h3⟩ := splice_ok h hc off hp hok hl h0 C.P
    refine ⟨w', Φ', ?_, h2, h3⟩
    obtain ⟨i, hi, hs⟩ := sz_ne (P := C.P) (t := t) (by omega)
    have hv : vy.cells.size = i.size := by rw [← Array.length_toList, hp.1, hs, hsz]
    simp [Instr.storeAt, Instr.sureAddr, storeVar, sizeOf, typeInfo, hi, hv, h1]
  unfold stoD at e
  split at e
  · rename_i o' g' off
    split at e
    · rename_i l b hc
      injection e with e; injection e with e1 e2; injection e2 with e2 e3; injection e3 with e3 e4; subst e1; subst e2; subst e3
      obtain rfl := inv_ptr hx hg.1
      have := key (off := off) (c := .bytes l) (y := .u8 b) hc hy rfl (by simp [D.cells, Cont.len]; omega) (by simp [D.cells]) (by simp [D.cells, hg.2.1])
      rw [set_splice l off b hg.2.2]
      exact this
    · rename_i l m hc
      injection e with e; injection e with e1 e2; injection e2 with e2 e3; injection e3 with e3 e4; subst e1; subst e2; subst e3
      obtain rfl := inv_ptr hx hg.1
      have := key (off := off) (c := .bytes l) (y := .aggb m) hc hy (u8_isU8 m) (by simp [D.cells, Cont.len]; omega) (by simp [D.cells]; omega) (by simp [D.cells, hg.2.2.1])
      simp only [Cont.splice, D.cells, map_toU8, List.length_map] at this
      exact this
    · rename_i cs hc
      split at e
      · injection e with e; injection e with e1 e2; injection e2 with e2 e3; injection e3 with e3 e4; subst e1; subst e2; subst e3
        obtain rfl := inv_ptr hx hg.1
        exact key (off := off) (c := .cells cs) hc hy hg.2.2.2.1 hg.2.2.2.2 hg.2.1 hg.2.2.1
      · rename_i hna
        injection e with e; injection e with e1 e2; injection e2 with e2 e3; injection e3 with e3 e4; subst e1; subst e2; subst e3
        obtain rfl := inv_ptr hx hg.1
        have hcl := notAgg_cells hna
        have := key (off := off) (c := .cells cs) hc hy (by rw [hcl]; simp [Cont.ok, hg.2.2.1]) (by rw [hcl]; have := hg.2.2.2; simp [Cont.len]; omega) (by rw [hcl]; simp) (by rw [hcl]; exact hg.2.1)
        rw [hcl] at this
        rw [set_splice cs off _ hg.2.2.2]
        exact this
    · cases e
  · cases e
end
end Go.Proofs.YtabkpoklihkifaaDoor

/- append and copy. Over any program. -/
namespace Go.Proofs.YtabkpoklihkifaaDoor
open Go Go.RowKit
set_option linter.unusedVariables false
set_option linter.unusedSimpArgs false

/-- What append's last argument is, to the model. -/
structure Src (P : Program) (w : World) (T2 : TypeId) (x2 : Value) (size m : Nat) (ys : List Value) : Prop where
  ty : (∃ e, P.underlying T2 = some (.slice e)) ∨ P.underlying T2 = some .string
  len : ∀ W, (Builtin.lenOf x2).run P W = .ok m W
  cells : ∀ n W, n ≤ m → W.heap = w.heap → (Builtin.firstCells size n x2).run P W = .ok (ys.take (n * size)).toArray W

/-- A slice into a row, or one without room. -/
def RowX (w : World) (s : Nat) (A : Option Addr) (n cap : Nat) (xs : List Value) (b : Nat) : Prop :=
  xs.length = n * s ∧ n ≤ cap ∧ cap ≤ maxLen ∧ ((n = 0 ∧ cap = 0) ∨ ∃ off cur E fz, A = some ⟨b, off, none⟩ ∧ w.heap[b]? = some (.cells cur E fz) ∧ Loose fz cur.size ∧ off + cap * s ≤ cur.size ∧ (cur.toList.drop off).take (n * s) = xs)

section
variable {P : Program} {w : World}
theorem cells_heap {w W : World} (h : W.heap = w.heap) (a : Addr) : W.cell? a = w.cell? a := by simp [World.cell?, h]
theorem src_slice {T2 E : TypeId} {size : Nat} {A : Option Addr} {m c : Nat} {ys : List Value} (ht : P.underlying T2 = some (.slice E)) {B : Nat} (rd : RdV w B size A m c ys) : Src P w T2 (.slice A m c) size m ys := by
  refine ⟨.inl ⟨_, ht⟩, fun W => rfl, fun n W hn hW => ?_⟩
  rcases A with _ | ad
  · have : ys = [] := by
      rcases Nat.eq_zero_or_pos m with h0 | h0
      · exact List.eq_nil_of_length_eq_zero (by rw [rd.len, h0, Nat.zero_mul])
      · obtain ⟨_, _, h, _⟩ := rd.cells h0
        cases h
    subst this
    rw [List.take_nil]
    exact run_firstCells_none W size n m c
  · have := Nat.mul_le_mul_right size hn
    exact run_firstCells_some W size n ad m c (ys.take (n * size)) (by rw [List.length_take, rd.len]; omega) (fun j v hv => by
      rw [cells_heap hW]
      rw [List.getElem?_take] at hv
      split at hv
      · exact rd.news ad rfl j v hv
      · cases hv)
theorem src_string {T2 : TypeId} (ht : P.underlying T2 = some .string) (l : List UInt8) : Src P w T2 (.string (str l)) 1 l.length (u8s l) := by
  refine ⟨.inr ht, fun W => rfl, fun n W hn hW => ?_⟩
  simp only [Builtin.firstCells]
  have : ((str l).extract 0 n).data.map (fun b => Value.int .u8 b.toNat) = ((u8s l).take (n * 1)).toArray := by
    rw [str_extract]
    apply Array.ext'
    simp [str, u8s, List.map_take]
    rfl
  rw [this]
  rfl

theorem run_append_xa {T T2 E ty : TypeId} {z : Value} {s by_ : Nat} (bt : SlTy P T E z s by_) {A : Option Addr} {n cap b : Nat} {xs : List Value} (own : RowX w s A n cap xs b) {x2 : Value} {m : Nat} {ys : List Value} (src : Src P w T2 x2 s m ys)
    (hy : ys.length = m * s) (h1 : ∀ u ∈ ys, u.oneCell' = true) (hlen : n + m ≤ maxLen) (hbytes : (n + m) * by_ ≤ 140737488355328) :
    ∃ A' cap' w', (Builtin.append_ #[T, T2] ty #[.slice A n cap, x2]).run P w = .ok (.slice A' (n + m) cap') w' ∧ n + m ≤ cap' ∧ cap' ≤ maxLen ∧ w'.os = w.os ∧ w'.tape = w.tape ∧ w'.output = w.output ∧ w.heap.size ≤ w'.heap.size ∧
      ((n + m = 0 ∧ cap' = 0 ∧ w'.heap = w.heap) ∨ ∃ b' off cur E' fz, A' = some ⟨b', off, none⟩ ∧ w'.heap[b']? = some (.cells cur E' fz) ∧ Loose fz cur.size ∧ off + cap' * s ≤ cur.size ∧ (cur.toList.drop off).take ((n + m) * s) = xs ++ ys ∧
        ((b' = w.heap.size ∧ ∀ k, k < w.heap.size → w'.heap[k]? = w.heap[k]?) ∨ (0 < cap ∧ b' = b ∧ w'.heap.size = w.heap.size ∧ (∃ cur0 E0 fz0, w.heap[b]? = some (.cells cur0 E0 fz0) ∧ cur.size = cur0.size) ∧ (∀ k, k ≠ b → w'.heap[k]? = w.heap[k]?) ∧ A' = A))) := by
  obtain ⟨i, hi, hz0, hz1, hz2⟩ := info_parts bt.info
  subst hz1
  subst hz2
  have hsmall : n + m ≤ 9223372036854775807 := by simp only [maxLen] at hlen; omega
  have hyt : ys.take (m * i.size) = ys := List.take_of_length_le (Nat.le_of_eq hy)
  obtain ⟨o1, o2, o3, o4⟩ := own
  by_cases hroom : n + m ≤ cap
  · have hfc := src.cells m w (Nat.le_refl _) rfl
    rw [hyt] at hfc
    rcases o4 with ⟨rfl, rfl⟩ | ⟨off, cur, E', fz, rfl, hh, hf, hs, htk⟩
    · have hm : m = 0 := by omega
      subst hm
      have hys : ys = [] := List.eq_nil_of_length_eq_zero (by simpa using hy)
      subst hys
      have hl0 := src.len w
      refine ⟨A, 0, w, ?_, Nat.le_refl _, by simp [maxLen], rfl, rfl, rfl, Nat.le_refl _, .inl ⟨rfl, rfl, rfl⟩⟩
      rcases A with _ | ad
      · rcases src.ty with ⟨e2, ht2⟩ | ht2 <;> simp [Builtin.append_, run_underlying bt.sl, run_underlying ht2, sizeOf, typeInfo, hi, hl0, hfc]
      · rcases src.ty with ⟨e2, ht2⟩ | ht2 <;> simp [Builtin.append_, run_underlying bt.sl, run_underlying ht2, sizeOf, typeInfo, hi, hl0, hfc, storeCells]
    · have hl0 := src.len w
      have hfit0 : n * i.size + ys.length ≤ cap * i.size := by rw [hy, ← Nat.add_mul]; exact Nat.mul_le_mul_right _ hroom
      have hfit : off + n * i.size + ys.length ≤ cur.size := by omega
      have hst := run_storeCells_loose P b (off + n * i.size) E' fz ys 0 cur w hh hf (by simpa using hfit) h1
      simp only [Nat.add_zero] at hst
      have hsz : (cur.toList.take (off + n * i.size) ++ ys ++ cur.toList.drop (off + n * i.size + ys.length)).toArray.size = cur.size := by
        simp only [List.size_toArray, List.length_append, List.length_take, List.length_drop, Array.length_toList]
        omega
      have hr : (Builtin.append_ #[T, T2] ty #[.slice (some ⟨b, off, none⟩) n cap, x2]).run P w =
          .ok (.slice (some ⟨b, off, none⟩) (n + m) cap) (w.setRow b (cur.toList.take (off + n * i.size) ++ ys ++ cur.toList.drop (off + n * i.size + ys.length)).toArray) := by
        rcases src.ty with ⟨e2, ht2⟩ | ht2 <;> simp [Builtin.append_, run_underlying bt.sl, run_underlying ht2, sizeOf, typeInfo, hi, hl0, hroom, hfc, Addr.add_lit, hst]
      by_cases hc0 : cap = 0
      · subst hc0
        obtain rfl : n = 0 := by omega
        obtain rfl : m = 0 := by omega
        have hys : ys = [] := List.eq_nil_of_length_eq_zero (by simpa using hy)
        subst hys
        have hw : w.setRow b (cur.toList.take (off + 0 * i.size) ++ [] ++ cur.toList.drop (off + 0 * i.size + 0)).toArray = w := by
          simp only [List.append_nil, Nat.zero_mul, Nat.add_zero, List.take_append_drop, Array.toArray_toList]
          exact setRow_self w b cur E' fz hh
        simp only [List.length_nil] at hr
        rw [hw] at hr
        exact ⟨_, _, _, hr, Nat.le_refl _, by simp [maxLen], rfl, rfl, rfl, Nat.le_refl _, .inl ⟨rfl, rfl, rfl⟩⟩
      · refine ⟨_, _, _, hr, hroom, o3, rfl, rfl, rfl, by simp, .inr ⟨b, off, _, E', fz, rfl, setRow_heap w b cur _ E' _ hh, by rw [hsz]; exact hf, by rw [hsz]; exact hs, ?_, .inr ⟨by omega, rfl, by simp, ⟨cur, E', fz, hh, hsz⟩, fun k hk => setRow_other w b k _ hk, rfl⟩⟩⟩
        have hd : (cur.toList.take (off + n * i.size)).drop off = xs := by
          rw [List.drop_take, ← htk]
          congr 1
          omega
        have hlt : off ≤ (cur.toList.take (off + n * i.size)).length := by
          simp only [List.length_take, Array.length_toList]
          omega
        have hxy : (xs ++ ys).length = (n + m) * i.size := by rw [List.length_append, o1, hy, Nat.add_mul]
        show List.take ((n + m) * i.size) (List.drop off (cur.toList.take (off + n * i.size) ++ ys ++ cur.toList.drop (off + n * i.size + ys.length))) = xs ++ ys
        rw [List.append_assoc, List.drop_append_of_le_length hlt, hd, ← List.append_assoc, ← hxy]
        exact List.take_left
  · have hl0 := src.len w
    have hfc := src.cells m w.drew (Nat.le_refl _) rfl
    rw [hyt] at hfc
    have hold : (Builtin.firstCells i.size n (.slice A n cap)).run P w.drew = .ok xs.toArray w.drew := by
      rcases o4 with ⟨rfl, rfl⟩ | ⟨off, cur, E', fz, rfl, hh, hf, hs, htk⟩
      · have hx : xs = [] := List.eq_nil_of_length_eq_zero (by simpa using o1)
        subst hx
        rcases A with _ | ad
        · exact run_firstCells_none w.drew i.size 0 0 0
        · exact run_firstCells_some w.drew i.size 0 ad 0 0 [] (by simp) (fun j v hv => by simp at hv)
      · refine run_firstCells_some w.drew i.size n ⟨b, off, none⟩ n cap xs o1 (fun j v hv => ?_)
        rw [add_lit]
        show w.cell? _ = _
        rw [cell_of_row w b (off + j) cur E' fz hh, ← Array.getElem?_toList]
        rw [← htk] at hv
        exact drop_take_get hv
    have hfit : Builtin.nextslicecap (n + m) cap * i.bytes ≤ 281474976710656 := growslice_fits (by omega) hbytes
    have hr : (Builtin.append_ #[T, T2] ty #[.slice A n cap, x2]).run P w =
        .ok (.slice (some ⟨w.heap.size, 0, none⟩) (n + m) (grownCap w (n + m) cap E)) (w.drew.alloc (.cells (xs.toArray ++ ys.toArray ++ Builtin.zeroCells z.cells (grownCap w (n + m) cap E - (n + m))) E)) := by
      have hn : ¬ (n + m ≤ cap) := hroom
      have h63' : ¬ (9223372036854775807 < ((n : Int) + (m : Int))) := by omega
      have h48' : ¬ (281474976710656 < Builtin.nextslicecap (n + m) cap * i.bytes) := by omega
      rcases src.ty with ⟨e2, ht2⟩ | ht2 <;> simp [Builtin.append_, run_underlying bt.sl, run_underlying ht2, sizeOf, typeInfo, zeroValue, hi, hz0, hl0, hn, h63', h48', Question.forced, hfc, hold, newRow, grownCap] <;> (congr 2; apply Array.ext'; simp [List.append_assoc])
    have hge := grownCap_ge w (n + m) cap E
    have hcm := grownCap_le_maxLen w (n + m) cap E hlen
    refine ⟨_, _, _, hr, hge, hcm, rfl, rfl, rfl, by simp, .inr ⟨w.heap.size, 0, _, E, (0, 0), rfl, heap_alloc_new w.drew _, Loose.zero _, ?_, ?_, .inl ⟨rfl, fun k hk => Below.heap_alloc w.drew _ k hk⟩⟩⟩
    · simp only [Array.size_append, List.size_toArray, size_zeroCells, bt.zs, o1, hy, ← Nat.add_mul, Nat.zero_add]
      apply Nat.mul_le_mul_right
      omega
    · have hxy : (xs ++ ys).length = (n + m) * i.size := by rw [List.length_append, o1, hy, Nat.add_mul]
      simp only [Array.toList_append, List.append_assoc, List.drop_zero]
      rw [← List.append_assoc, ← hxy]
      exact List.take_left
theorem run_append_x {T T2 E ty : TypeId} {z : Value} {s by_ : Nat} (bt : SlTy P T E z s by_) {A : Option Addr} {n cap b : Nat} {xs : List Value} (own : RowX w s A n cap xs b) {x2 : Value} {m : Nat} {ys : List Value} (src : Src P w T2 x2 s m ys)
    (hy : ys.length = m * s) (h1 : ∀ u ∈ ys, u.oneCell' = true) (hlen : n + m ≤ maxLen) (hbytes : (n + m) * by_ ≤ 140737488355328) :
    ∃ A' cap' w', (Builtin.append_ #[T, T2] ty #[.slice A n cap, x2]).run P w = .ok (.slice A' (n + m) cap') w' ∧ n + m ≤ cap' ∧ cap' ≤ maxLen ∧ w'.os = w.os ∧ w'.tape = w.tape ∧ w'.output = w.output ∧ w.heap.size ≤ w'.heap.size ∧
      ((n + m = 0 ∧ cap' = 0 ∧ w'.heap = w.heap) ∨ ∃ b' off cur E' fz, A' = some ⟨b', off, none⟩ ∧ w'.heap[b']? = some (.cells cur E' fz) ∧ Loose fz cur.size ∧ off + cap' * s ≤ cur.size ∧ (cur.toList.drop off).take ((n + m) * s) = xs ++ ys ∧
        ((b' = w.heap.size ∧ ∀ k, k < w.heap.size → w'.heap[k]? = w.heap[k]?) ∨ (0 < cap ∧ b' = b ∧ w'.heap.size = w.heap.size ∧ (∃ cur0 E0 fz0, w.heap[b]? = some (.cells cur0 E0 fz0) ∧ cur.size = cur0.size) ∧ ∀ k, k ≠ b → w'.heap[k]? = w.heap[k]?))) := by
  obtain ⟨A', cap', w', h1, h2, h3, h4, h5, h6, h7, h8⟩ := run_append_xa (P := P) (w := w) (ty := ty) bt own src hy h1 hlen hbytes
  refine ⟨A', cap', w', h1, h2, h3, h4, h5, h6, h7, ?_⟩
  rcases h8 with h8 | ⟨b', off, cur, E', fz, k1, k2, k3, k4, k5, k6 | ⟨m1, m2, m3, m4, m5, _⟩⟩
  · exact .inl h8
  · exact .inr ⟨b', off, cur, E', fz, k1, k2, k3, k4, k5, .inl k6⟩
  · exact .inr ⟨b', off, cur, E', fz, k1, k2, k3, k4, k5, .inr ⟨m1, m2, m3, m4, m5⟩⟩
end
end Go.Proofs.YtabkpoklihkifaaDoor

/- append and copy, in the abstract state. Over any program. -/
namespace Go.Proofs.YtabkpoklihkifaaDoor
open Go Go.RowKit
set_option linter.unusedVariables false
set_option linter.unusedSimpArgs false

def bytN : D → Nat
  | .rob l => l.length
  | .sl _ _ _ len => len
  | .str l => l.length
  | _ => 0
/-- The bytes that append's, or copy's, last argument reads as. -/
def bsrc (Ti : Nat → TI) (O : Nat → Ob) (T : TypeId) (y : D) : Option (Prop × List UInt8 × List Nat) :=
  match (Ti T).ty, y with
  | .str, .str l => some (True, l, [])
  | .slice _, y => match byt O y with | some r => some r | none => bytc O y
  | _, _ => none
/-- The elements of s cells that a slice reads as. -/
def els (O : Nat → Ob) (s : Nat) (d : D) : Option (Prop × List D × Nat × List Nat) :=
  match d with
  | .nilS => some (True, [], 0, [])
  | .ros s' n cs => some (s' = s, cs, n, [])
  | .rof s' n f => some (s' = s ∧ s' = 1, (List.range n).map (fun i => f i 0), n, [])
  | .sl o g off len =>
    match (O o).ct with
    | some (.cells cs) => some (g = (O o).sh.gen ∧ (O o).sh.esz = s, (cs.drop off).take (len * s), len, [o])
    | _ => none
  | _ => none
/-- append of bytes: the object, what it holds, how many. -/
def apbD (Ti : Nat → TI) (O : Nat → Ob) (t : Nat) (T T2 : TypeId) (x y : D) : Option (Prop × Nat × Cont × Nat × List Nat) :=
  match (Ti T).ty, bsrc Ti O T2 y with
  | .slice e, some (gy, yl, Ry) =>
    match x with
    | .nilS => some ((gy ∧ (Ti e).zero = .u8 0 ∧ (Ti e).sz = 1 ∧ (Ti e).by_ = 1 ∧ bytN y ≤ 140737488355328), t, .bytes yl, bytN y, t :: Ry)
    | .sl o g off len =>
      match (O o).ct with
      | some (.bytes l) => some ((gy ∧ g = (O o).sh.gen ∧ (O o).sh.esz = 1 ∧ (Ti e).zero = .u8 0 ∧ (Ti e).sz = 1 ∧ (Ti e).by_ = 1 ∧ len + bytN y ≤ 140737488355328), o, .bytes ((l.drop off).take len ++ yl), len + bytN y, o :: Ry)
      | _ => none
    | _ => none
  | _, _ => none
/-- append of other elements. -/
def apcD (Ti : Nat → TI) (O : Nat → Ob) (t : Nat) (T T2 : TypeId) (x y : D) : Option (Prop × Nat × Nat × Cont × Nat × List Nat) :=
  match (Ti T).ty with
  | .slice e =>
    match els O (Ti e).sz y with
    | some (gy, ys, ny, Ry) =>
      match x with
      | .nilS => some ((gy ∧ (Ti T2).ty = .slice e ∧ ys.all D.sc = true ∧ 0 < (Ti e).sz ∧ (Ti e).zero.cells.length = (Ti e).sz ∧ (Ti e).zero.cells.all D.sc = true ∧ 0 < (Ti e).by_ ∧ ny * (Ti e).by_ ≤ 140737488355328), t, (Ti e).sz, .cells ys, ny, t :: Ry)
      | .sl o g off len =>
        match (O o).ct with
        | some (.cells cs) => some ((gy ∧ (Ti T2).ty = .slice e ∧ ys.all D.sc = true ∧ ((cs.drop off).take (len * (Ti e).sz)).all D.sc = true ∧ g = (O o).sh.gen ∧ (O o).sh.esz = (Ti e).sz ∧ 0 < (Ti e).sz ∧ (Ti e).zero.cells.length = (Ti e).sz ∧ (Ti e).zero.cells.all D.sc = true ∧ 0 < (Ti e).by_ ∧ (len + ny) * (Ti e).by_ ≤ 140737488355328),
            o, (Ti e).sz, .cells ((cs.drop off).take (len * (Ti e).sz) ++ ys), len + ny, o :: Ry)
        | _ => none
      | _ => none
    | none => none
  | _ => none

section
variable {C : Ctx} {s : St} {ρ : Nat → Pl} {S : Nat → Prop} {Φ : Nat → List Nat} {w : World}

/-- A live object's row. -/
theorem RepW.row (h : RepW C s ρ S Φ w) {o : Nat} {c : Cont} (ho : (s.ob o).ct = some c) {off len : Nat} {v : Value} (hs : SlAt (ρ o) (s.sh o) off len v) (he : 0 < (s.sh o).esz) (hsc : ∀ i, i < len * (s.sh o).esz → (c.at_ (off + i)).sc = true) :
    ∃ A cap xs, v = .slice A len cap ∧ RowX w (s.sh o).esz A len cap xs (ρ o).blk ∧ (0 < cap → (ρ o).blk ∈ Φ o) ∧ RdV w w.heap.size (s.sh o).esz A len cap xs ∧ ∀ i u, xs[i]? = some u → RV w S ρ s.sh (c.at_ (off + i)) u [] := by
  obtain ⟨A, cap, rfl, h1, h2, h3, h4⟩ := hs
  obtain ⟨hcl, h5⟩ := h.ob o c ho
  rcases h4 with ⟨rfl, rfl⟩ | ⟨hA, hfit⟩
  · exact ⟨A, 0, [], rfl, ⟨by simp, Nat.le_refl _, h2, .inl ⟨rfl, rfl⟩⟩, fun h => absurd h (by omega), ⟨by simp, Nat.le_refl _, h2, Nat.le_refl _, fun h => absurd h (by omega)⟩, fun i u hu => by simp at hu⟩
  · rcases h5 with ⟨q1, q2, q3⟩ | ⟨cur, E, fz, Fs, hh, hz, hsz, hb, hF, hct⟩
    · have hc0 : cap = 0 := by
        rcases Nat.eq_zero_or_pos cap with h0 | h0
        · exact h0
        · have := Nat.mul_pos h0 he
          omega
      subst hc0
      have hl0 : len = 0 := by omega
      subst hl0
      exact ⟨A, 0, [], rfl, ⟨by simp, Nat.le_refl _, h2, .inl ⟨rfl, rfl⟩⟩, fun h => absurd h (by omega), ⟨by simp, Nat.le_refl _, h2, Nat.le_refl _, fun h => absurd h (by omega)⟩, fun i u hu => by simp at hu⟩
    · have hlen : ((cur.toList.drop ((ρ o).base + off)).take (len * (s.sh o).esz)).length = len * (s.sh o).esz := by
        rw [List.length_take, List.length_drop, Array.length_toList]
        have := Nat.mul_le_mul_right (s.sh o).esz h1
        omega
      have hget : ∀ i u, ((cur.toList.drop ((ρ o).base + off)).take (len * (s.sh o).esz))[i]? = some u → cur[(ρ o).base + off + i]? = some u := fun i u hu => by
        rw [← Array.getElem?_toList]
        exact drop_take_get hu
      have hlt : (ρ o).blk < w.heap.size := (Array.getElem?_eq_some_iff.1 hh).1
      refine ⟨A, cap, _, rfl, ⟨hlen, h1, h2, .inr ⟨_, cur, E, fz, hA, hh, hz, by omega, rfl⟩⟩, fun _ => by rw [hF]; simp, ⟨hlen, h1, h2, Nat.le_refl _, fun _ => ⟨_, _, hA, hlt, fun i u hu => ?_⟩⟩, fun i u hu => ?_⟩
      · rw [cell_of_row w _ _ cur E fz hh]
        exact hget i u hu
      · have hi : i < len * (s.sh o).esz := by rw [← hlen]; exact (List.getElem?_eq_some_iff.1 hu).1
        obtain ⟨u', hu', hr⟩ := h.cell ho (i := off + i) (by omega) (hsc i hi)
        rw [cell_of_row w _ _ cur E fz hh, ← Nat.add_assoc, hget i u hu] at hu'
        injection hu' with hu'
        subst hu'
        exact hr

theorem apn_core (h : RepW C s ρ S Φ w) (o : Nat) {T T2 E ty : TypeId} {z : Value} {esz by_ : Nat} (bt : SlTy C.P T E z esz by_) {A : Option Addr} {n cap b : Nat} {xs : List Value} (own : RowX w esz A n cap xs b) (hb : 0 < cap → (s.ob o).ct.isSome = true ∧ b ∈ Φ o)
    {x2 : Value} {m : Nat} {ys : List Value} (src : Src C.P w T2 x2 esz m ys) (hy : ys.length = m * esz) (h1 : ∀ u ∈ ys, u.oneCell' = true) (hlen : n + m ≤ maxLen) (hbytes : (n + m) * by_ ≤ 140737488355328) (c : Cont) (hfit : Fits w S ρ s.sh (xs ++ ys).toArray c) (hcl : c.len = (xs ++ ys).length) :
    Outc C s S ρ w ((Builtin.append_ #[T, T2] ty #[.slice A n cap, x2]).run C.P w) (s.lay1 o esz c) (.sl o ((s.sh o).gen + 1) 0 (n + m)) := by
  obtain ⟨A', cap', w', hr, c1, c2, hos, htape, hout, hsz, hcase⟩ := run_append_x (P := C.P) (w := w) (ty := ty) bt own src hy h1 hlen hbytes
  have hxy : (xs ++ ys).length = (n + m) * esz := by rw [List.length_append, own.1, hy, Nat.add_mul]
  have hw : ∀ k, k < w.heap.size → ((s.ob o).ct.isSome = true → k ∉ Φ o) → w'.heap[k]? = w.heap[k]? := by
    intro k hk hn
    rcases hcase with ⟨_, _, e⟩ | ⟨b', off, cur, E', fz, _, _, _, _, _, ⟨_, hold⟩ | ⟨hc0, rfl, _, _, hold⟩⟩
    · rw [e]
    · exact hold k hk
    · exact hold k (fun e => by
        obtain ⟨q1, q2⟩ := hb hc0
        exact hn q1 (e ▸ q2))
  have hszs : Szs w w' := by
    rcases hcase with ⟨_, _, e⟩ | ⟨b', off, cur, E', fz, _, hh, _, _, _, ⟨_, hold⟩ | ⟨hc0, rfl, _, ⟨cur0, E0, fz0, q1, q2⟩, hold⟩⟩
    · exact Szs.same (fun b _ => by rw [e])
    · exact Szs.same hold
    · intro k c1 E1 f1 hk
      by_cases hkb : k = b'
      · subst hkb
        rw [q1] at hk
        injection hk with hk
        injection hk with e1 e2 e3
        subst e1
        exact ⟨cur, E', fz, hh, q2⟩
      · exact ⟨c1, E1, f1, (hold k hkb).trans hk, rfl⟩
  have hwS : ∀ b, S b → w'.heap[b]? = w.heap[b]? := fun b hb => hw b (h.s1 b hb).1 (fun hl hm => by
    obtain ⟨c, hc⟩ := Option.isSome_iff_exists.1 hl
    exact ((h.own o c hc).2 b hm).1 hb)
  have hsh : (s.lay1 o esz c).sh = upd s.sh o ⟨(s.sh o).gen + 1, esz, c.len⟩ := by unfold St.lay1; rw [St.sh_lay]; rfl
  have hmono : ∀ (p : Pl) d v, RV w S ρ s.sh d v [] → RV w' S (upd ρ o p) (upd s.sh o ⟨(s.sh o).gen + 1, esz, c.len⟩) d v [] := fun p d v hr => by
    refine hr.mono (fun _ h => h) hwS (fun x => ?_) (by simp)
    by_cases hx : x = o
    · subst hx
      rw [upd_same, upd_same]
      exact ⟨by show _ ≤ _ + 1; omega, fun e => absurd e (by show ¬ (_ + 1 = _); omega)⟩
    · rw [upd_other _ _ _ hx, upd_other _ _ _ hx]
      exact ⟨Nat.le_refl _, fun _ => ⟨rfl, rfl⟩⟩
  rcases hcase with ⟨hnm, hc0, hheap⟩ | ⟨b', off, cur, E', fz, rfl, hh, hz, hfits, htk, hbc⟩
  · have hone := h.one (w' := w') o (s.nxt o esz c) ⟨0, 0, 0⟩ [] hos htape hout hsz hszs (.inl (by simp [St.nxt])) hw (fun c' hc' => ⟨by
      have e : c = c' := by simpa [St.nxt] using hc'
      subst e
      rfl, .inl ⟨by
      have e : c = c' := by simpa [St.nxt] using hc'
      subst e
      rw [hcl, hxy, hnm, Nat.zero_mul], rfl, rfl⟩⟩) (fun _ => ⟨by simp, by simp⟩)
    refine ⟨_, w', _, _, hr, hone.1, hone.2, .sl _ _ _ _ _ rfl (by rw [hsh, upd_same]; exact Nat.le_refl _) (fun _ => ⟨A', cap', rfl, c1, c2, ?_, .inl ⟨hnm, hc0⟩⟩)⟩
    rw [hnm]
    simp
  · have hlt : b' < w'.heap.size := (Array.getElem?_eq_some_iff.1 hh).1
    have hcur : ∀ i, i < (n + m) * esz → cur[off + i]? = (xs ++ ys)[i]? := fun i hi => by
      rw [← htk, List.getElem?_take, if_pos hi, List.getElem?_drop, Array.getElem?_toList]
    have hobr : ∀ c', (s.nxt o esz c).ct = some c' → ObR w' S (upd ρ o ⟨b', off, cur.size⟩) (upd s.sh o (s.nxt o esz c).sh) ⟨b', off, cur.size⟩ (s.nxt o esz c).sh c' [b'] := by
      intro c' hc'
      have e : c = c' := by simpa [St.nxt] using hc'
      subst e
      have hle : off + c.len ≤ cur.size := by
        rw [hcl, hxy]
        have := Nat.mul_le_mul_right esz c1
        omega
      cases c with
      | bytes l =>
        refine ⟨rfl, .inr ⟨cur, E', fz, [], hh, hz, rfl, hle, rfl, rfl, fun i hi => ?_⟩⟩
        have hf := hfit i hi
        rw [List.getElem?_toArray] at hf
        rw [hcur i (by rw [← hxy, ← hcl]; exact hi), hf]
      | cells cs =>
        refine ⟨rfl, .inr ⟨cur, E', fz, List.replicate cs.length [], hh, hz, rfl, hle, by rw [flat_nil], by simp, fun i c u f q1 q2 q3 => ?_⟩⟩
        rw [List.getElem?_replicate] at q3
        split at q3
        · rename_i hi
          injection q3 with q3
          subst q3
          rw [hcur i (by rw [← hxy, ← hcl]; exact hi)] at q2
          exact hmono _ c u (hfit i c u q1 (by rw [List.getElem?_toArray]; exact q2))
        · cases q3
    have hF : (s.nxt o esz c).ct.isSome = true → ([b'] : List Nat).Nodup ∧ ∀ b ∈ [b'], ¬ S b ∧ b < w'.heap.size ∧ (C.w0.heap.size ≤ b ∨ b ∈ C.M) ∧ b ∉ s.dk ∧ ∀ o' c', o' ≠ o → (s.ob o').ct = some c' → b ∉ Φ o' := by
      intro _
      refine ⟨by simp, fun b hb' => ?_⟩
      obtain rfl : b = b' := by simpa using hb'
      rcases hbc with ⟨rfl, _⟩ | ⟨hc0, rfl, _⟩
      · refine ⟨fun e => by have := (h.s1 _ e).1; omega, hlt, .inl h.size, fun e => by have := (Array.getElem?_eq_some_iff.1 (h.dk _ e)).1; omega, fun o' c' ho hc' hm => ?_⟩
        have := ((h.own o' c' hc').2 _ hm).2.1
        omega
      · obtain ⟨q1, q2⟩ := hb hc0
        obtain ⟨c0, hc0'⟩ := Option.isSome_iff_exists.1 q1
        have := (h.own o c0 hc0').2 _ q2
        exact ⟨this.1, hlt, this.2.2.1, this.2.2.2, fun o' c' ho hc' => h.dis o o' c0 c' hc0' hc' (Ne.symm ho) _ q2⟩
    have hone := h.one (w' := w') o (s.nxt o esz c) ⟨b', off, cur.size⟩ [b'] hos htape hout hsz hszs (.inl (by simp [St.nxt])) hw hobr hF
    exact ⟨_, w', _, _, hr, hone.1, hone.2, lay_sl o esz c ⟨b', off, cur.size⟩ (n + m) cap' c1 c2 (by rw [hcl, hxy]; exact Nat.le_refl _) hfits⟩

/-- Bytes handed to append or copy. -/
theorem bsrc_ok (h : RepW C s ρ S Φ w) {T : TypeId} {y : D} {g : Prop} {l : List UInt8} {R : List Nat} (e : bsrc (tiOf C.P) s.ob T y = some (g, l, R)) (hg : g) {v : Value} (hr : RV w S ρ s.sh y v []) :
    Src C.P w T v 1 l.length (u8s l) ∧ bytN y = l.length := by
  unfold bsrc at e
  split at e
  · rename_i b ht
    injection e with e; injection e with e1 e2; injection e2 with e2 e3; subst e2
    obtain rfl := inv_str hr
    exact ⟨src_string (ti_str ht) _, rfl⟩
  · rename_i el y' ht
    split at e
    · rename_i r hb
      injection e with e
      subst e
      obtain ⟨A, n, cap, rfl, hrd⟩ := byt_ok h hb hg hr
      refine ⟨by have := hrd.len; subst this; exact src_slice (ti_slice ht) hrd.v, ?_⟩
      unfold byt at hb
      split at hb
      · injection hb with hb; injection hb with e1 e2; injection e2 with e2 e3; subst e2; rfl
      · injection hb with hb; injection hb with e1 e2; injection e2 with e2 e3; subst e2; rfl
      · rename_i o g' off len
        split at hb
        · injection hb with hb; injection hb with e1 e2; injection e2 with e2 e3; subst e1; subst e2
          obtain ⟨A', cap', e5, _⟩ := inv_sl hr hg.1
          injection e5 with e5 e6 e7
          rw [hrd.len, e6]
          rfl
        · cases hb
      · cases hb
    · obtain ⟨A, n, cap, rfl, hrd⟩ := bytc_ok h e hg hr
      refine ⟨by have := hrd.len; subst this; exact src_slice (ti_slice ht) hrd.v, ?_⟩
      unfold bytc at e
      split at e
      · rename_i o g' off len
        split at e
        · injection e with e; injection e with e1 e2; injection e2 with e2 e3; subst e1; subst e2
          obtain ⟨A', cap', e5, _⟩ := inv_sl hr hg.1
          injection e5 with e5 e6 e7
          rw [hrd.len, e6]
          rfl
        · cases e
      · cases e
  · cases e
theorem slTy_of {P : Program} {T E : TypeId} (ht : (tiOf P T).ty = .slice E) (hz : (tiOf P E).zero ≠ .bot) (hc : (tiOf P E).zero.cells.length = (tiOf P E).sz) (hsc : (tiOf P E).zero.cells.all D.sc = true) (h0 : 0 < (tiOf P E).sz) : ∃ z, SlTy P T E z (tiOf P E).sz (tiOf P E).by_ := by
  obtain ⟨i, z, hi, hs, hb, hz', hzv⟩ := ti_zero hz
  refine ⟨z, ti_slice ht, by rw [hi]; simp [hz', hs, hb], ?_, h0⟩
  have hr : RV (default : World) (fun _ => False) (fun _ => ⟨0, 0, 0⟩) (fun _ => ⟨0, 0, 0⟩) (tiOf P E).zero z [] := by rw [← hzv]; exact ofVal_ok z
  have := (cells_ok hr hsc).1
  rw [← Array.length_toList, this, hc]
theorem apb_ok (h : RepW C s ρ S Φ w) {t : Nat} {T T2 ty : TypeId} {x y : D} {g : Prop} {o : Nat} {c : Cont} {n : Nat} {R : List Nat} (e : apbD (tiOf C.P) s.ob t T T2 x y = some (g, o, c, n, R)) (hg : g) {vx vy : Value} (hx : RV w S ρ s.sh x vx []) (hy : RV w S ρ s.sh y vy []) :
    Outc C s S ρ w ((Builtin.append_ #[T, T2] ty #[vx, vy]).run C.P w) (s.lay1 o 1 c) (.sl o ((s.sh o).gen + 1) 0 n) := by
  unfold apbD at e
  split at e
  · rename_i el gy yl Ry ht hb
    split at e
    · injection e with e; injection e with e1 e2; injection e2 with e2 e3; injection e3 with e3 e4; injection e4 with e4 e5; subst e1; subst e2; subst e3; subst e4
      obtain ⟨g1, g2, g3, g4, g5⟩ := hg
      obtain ⟨hsrc, hn⟩ := bsrc_ok h hb g1 hy
      obtain rfl := inv_nilS hx
      obtain ⟨z, hz⟩ := slTy_of (P := C.P) ht (by rw [g2]; simp) (by rw [g2, g3]; rfl) (by rw [g2]; rfl) (by omega)
      rw [g3, g4] at hz
      have := apn_core (ty := ty) h t hz (A := none) (n := 0) (cap := 0) (b := 0) (xs := []) ⟨by simp, Nat.le_refl _, by simp [maxLen], .inl ⟨rfl, rfl⟩⟩ (fun h => absurd h (by omega)) hsrc (by simp [u8s]) (u8s_one yl) (by simp [maxLen]; omega) (by omega) (.bytes yl) (fun i hi => by
        rw [List.getElem?_toArray, List.nil_append, u8s_get, gb_of hi]; rfl) (by simp [Cont.len, u8s])
      rw [Nat.zero_add, ← hn] at this
      exact this
    · rename_i o' g' off len
      split at e
      · rename_i l ho
        injection e with e; injection e with e1 e2; injection e2 with e2 e3; injection e3 with e3 e4; injection e4 with e4 e5; subst e1; subst e2; subst e3; subst e4
        obtain ⟨g1, gg, ge, g2, g3, g4, g5⟩ := hg
        obtain ⟨hsrc, hn⟩ := bsrc_ok h hb g1 hy
        obtain ⟨z, hz⟩ := slTy_of (P := C.P) ht (by rw [g2]; simp) (by rw [g2, g3]; rfl) (by rw [g2]; rfl) (by omega)
        rw [g3, g4] at hz
        have hes : (s.sh o').esz = 1 := ge
        obtain ⟨A, cap, xs, rfl, hrow, hbb, hrd, hxr⟩ := h.row ho (inv_sl hx gg) (by omega) (fun i _ => rfl)
        rw [hes] at hrow hrd
        have hxl := hrow.1
        rw [Nat.mul_one] at hxl
        have hll : off + len ≤ l.length := by
          obtain ⟨_, _, _, _, _, q, _⟩ := inv_sl hx gg
          have hcl : (s.sh o').clen = l.length := (h.ob o' _ ho).1
          rw [hes] at q
          omega
        have hxs : xs = u8s ((l.drop off).take len) := by
          apply List.ext_getElem?
          intro i
          rcases Nat.lt_or_ge i len with hi | hi
          · have hix : i < xs.length := by omega
            have h1 := hxr i _ (List.getElem?_eq_getElem hix)
            rw [List.getElem?_eq_getElem hix, u8s_get, List.getElem?_take, if_pos hi, List.getElem?_drop, gb_of (show off + i < l.length by omega), inv_u8 h1]
            rfl
          · rw [List.getElem?_eq_none (by omega), List.getElem?_eq_none (by rw [u8s_length, List.length_take]; omega)]
        subst hxs
        have hxl2 : ((l.drop off).take len).length = len := by rw [List.length_take, List.length_drop]; omega
        have := apn_core (ty := ty) h o' hz hrow (fun h0 => ⟨by rw [ho]; rfl, hbb h0⟩) hsrc (by simp [u8s]) (u8s_one yl) (by simp [maxLen]; omega) (by omega) (.bytes ((l.drop off).take len ++ yl)) (fun i hi => by
          rw [List.getElem?_toArray, ← u8s_append, u8s_get, gb_of hi]; rfl) (by rw [← u8s_append]; simp [Cont.len, u8s])
        rw [← hn] at this
        exact this
      · cases e
    · cases e
  · cases e
/-- Elements handed to append. -/
theorem els_ok (h : RepW C s ρ S Φ w) {T E : TypeId} (hT : (tiOf C.P T).ty = .slice E) {sz : Nat} (h0 : 0 < sz) {y : D} {g : Prop} {cs : List D} {n : Nat} {R : List Nat} (e : els s.ob sz y = some (g, cs, n, R)) (hg : g) (hsc : cs.all D.sc = true) {v : Value} (hr : RV w S ρ s.sh y v []) :
    ∃ xs, Src C.P w T v sz n xs ∧ PR w S ρ s.sh cs xs ∧ xs.length = n * sz := by
  unfold els at e
  split at e
  · injection e with e; injection e with e1 e2; injection e2 with e2 e3; injection e3 with e3 e4; subst e2; subst e3
    obtain rfl := inv_nilS hr
    exact ⟨[], src_slice (ti_slice hT) (B := 0) ⟨by simp, Nat.le_refl _, by simp [maxLen], Nat.zero_le _, fun h => absurd h (by omega)⟩, PR.nil, by simp⟩
  · rename_i s' m cs'
    injection e with e; injection e with e1 e2; injection e2 with e2 e3; injection e3 with e3 e4; subst e1; subst e2; subst e3
    subst hg
    cases hr with
    | ros _ _ _ A cap b off us hl hn hm hA hc hr =>
      refine ⟨(List.range (m * s')).map us, src_slice (ti_slice hT) (B := w.heap.size) ⟨by simp, hn, hm, Nat.le_refl _, fun h0' => ?_⟩, ⟨by simp [hl], fun i c u h1 h2 => ?_⟩, by simp⟩
      · obtain ⟨rfl, hb⟩ := hA h0'
        refine ⟨b, off, rfl, (h.s1 b hb).1, fun i u hu => ?_⟩
        have hi : i < m * s' := by
          have := (List.getElem?_eq_some_iff.1 hu).1
          simpa using this
        simp [hi] at hu
        subst hu
        exact hc h0' i _ (List.getElem?_eq_getElem (by omega))
      · have hi : i < m * s' := by rw [← hl]; exact (List.getElem?_eq_some_iff.1 h1).1
        simp [hi] at h2
        subst h2
        exact hr i c h1
  · rename_i s' m f
    injection e with e; injection e with e1 e2; injection e2 with e2 e3; injection e3 with e3 e4; subst e1; subst e2; subst e3
    obtain ⟨rfl, rfl⟩ := hg
    cases hr with
    | rof _ _ _ A cap b off us hn hm hp hA hc hr =>
      refine ⟨(List.range m).map (fun i => us i 0), src_slice (ti_slice hT) (B := w.heap.size) ⟨by simp, hn, hm, Nat.le_refl _, fun h0' => ?_⟩, ⟨by simp, fun i c u h1 h2 => ?_⟩, by simp⟩
      · obtain ⟨rfl, hb⟩ := hA h0'
        refine ⟨b, off, rfl, (h.s1 b hb).1, fun i u hu => ?_⟩
        have hi : i < m := by
          have := (List.getElem?_eq_some_iff.1 hu).1
          simpa using this
        simp [hi] at hu
        subst hu
        have := hc i 0 hi (by omega)
        simpa using this
      · have hi : i < m := by
          have := (List.getElem?_eq_some_iff.1 h1).1
          simpa using this
        simp [hi] at h1 h2
        subst h1; subst h2
        exact hr i 0 hi (by omega)
  · rename_i o g' off len
    split at e
    · rename_i cs' ho
      injection e with e; injection e with e1 e2; injection e2 with e2 e3; injection e3 with e3 e4; subst e1; subst e2; subst e3
      obtain ⟨g1, g2⟩ := hg
      have hes : (s.sh o).esz = sz := g2
      have hsl := inv_sl hr g1
      have hll : off + len * sz ≤ cs'.length := by
        obtain ⟨_, _, _, _, _, q, _⟩ := hsl
        have hcl : (s.sh o).clen = cs'.length := (h.ob o _ ho).1
        rw [hes] at q
        omega
      have hat : ∀ i, i < len * sz → ((cs'.drop off).take (len * sz))[i]? = some (Cont.at_ (.cells cs') (off + i)) := fun i hi => by
        rw [List.getElem?_take, if_pos hi, List.getElem?_drop]
        exact getD_some (by omega)
      obtain ⟨A, cap, xs, rfl, hrow, hbb, hrd, hxr⟩ := h.row ho hsl (by omega) (fun i hi => by
        rw [hes] at hi
        exact List.all_eq_true.1 hsc _ (List.mem_of_getElem? (hat i hi)))
      rw [hes] at hrow hrd
      have hlc : ((cs'.drop off).take (len * sz)).length = len * sz := by rw [List.length_take, List.length_drop]; omega
      refine ⟨xs, src_slice (ti_slice hT) hrd, ⟨by rw [hrow.1, hlc], fun i c u h1 h2 => ?_⟩, hrow.1⟩
      have hi : i < len * sz := by rw [← hlc]; exact (List.getElem?_eq_some_iff.1 h1).1
      rw [hat i hi] at h1
      injection h1 with h1
      subst h1
      exact hxr i u h2
    · cases e
  · cases e
theorem pr_fits {H : Nat → Sh} {cs : List D} {vs : List Value} (h : PR w S ρ H cs vs) : Fits w S ρ H vs.toArray (.cells cs) ∧ (Cont.cells cs).len = vs.length :=
  ⟨fun i c u h1 h2 => h.2 i c u h1 (by rwa [List.getElem?_toArray] at h2), h.1.symm⟩
theorem apc_ok (h : RepW C s ρ S Φ w) {t : Nat} {T T2 ty : TypeId} {x y : D} {g : Prop} {o esz : Nat} {c : Cont} {n : Nat} {R : List Nat} (e : apcD (tiOf C.P) s.ob t T T2 x y = some (g, o, esz, c, n, R)) (hg : g) {vx vy : Value} (hx : RV w S ρ s.sh x vx []) (hy : RV w S ρ s.sh y vy []) :
    Outc C s S ρ w ((Builtin.append_ #[T, T2] ty #[vx, vy]).run C.P w) (s.lay1 o esz c) (.sl o ((s.sh o).gen + 1) 0 n) := by
  unfold apcD at e
  split at e
  · rename_i el ht
    split at e
    · rename_i gy ys ny Ry he
      have hzne : (tiOf C.P el).zero.cells.all D.sc = true → (tiOf C.P el).zero ≠ .bot := fun h e => by rw [e] at h; simp [D.cells, D.sc] at h
      split at e
      · injection e with e; injection e with e1 e2; injection e2 with e2 e3; injection e3 with e3 e4; injection e4 with e4 e5; injection e5 with e5 e6; subst e1; subst e2; subst e3; subst e4; subst e5
        obtain ⟨g1, gT, g2, g3, g4, g5, g6, g7⟩ := hg
        obtain ⟨xs, hsrc, hpr, hxl⟩ := els_ok h gT g3 he g1 g2 hy
        obtain rfl := inv_nilS hx
        obtain ⟨z, hz⟩ := slTy_of (P := C.P) ht (hzne g5) g4 g5 g3
        obtain ⟨f1, f2⟩ := pr_fits hpr
        have hm : ny ≤ maxLen := by have := Nat.le_mul_of_pos_right ny g6; simp [maxLen]; omega
        have := apn_core (ty := ty) h t hz (A := none) (n := 0) (cap := 0) (b := 0) (xs := []) ⟨by simp, Nat.le_refl _, by simp [maxLen], .inl ⟨rfl, rfl⟩⟩ (fun h => absurd h (by omega)) hsrc hxl (hpr.one_ g2) (by omega) (by rw [Nat.zero_add]; exact g7) (.cells ys) (by rw [List.nil_append]; exact f1) (by rw [List.nil_append]; exact f2)
        rw [Nat.zero_add] at this
        exact this
      · rename_i o' g' off len
        split at e
        · rename_i cs ho
          injection e with e; injection e with e1 e2; injection e2 with e2 e3; injection e3 with e3 e4; injection e4 with e4 e5; injection e5 with e5 e6; subst e1; subst e2; subst e3; subst e4; subst e5
          obtain ⟨g1, gT, g2, gs, gg, ge, g3, g4, g5, g6, g7⟩ := hg
          obtain ⟨xs, hsrc, hpr, hxl⟩ := els_ok h gT g3 he g1 g2 hy
          obtain ⟨z, hz⟩ := slTy_of (P := C.P) ht (hzne g5) g4 g5 g3
          have hes : (s.sh o').esz = (tiOf C.P el).sz := ge
          have hsl := inv_sl hx gg
          have hll : off + len * (tiOf C.P el).sz ≤ cs.length := by
            obtain ⟨_, _, _, _, _, q, _⟩ := hsl
            have hcl : (s.sh o').clen = cs.length := (h.ob o' _ ho).1
            rw [hes] at q
            omega
          have hat : ∀ i, i < len * (tiOf C.P el).sz → ((cs.drop off).take (len * (tiOf C.P el).sz))[i]? = some (Cont.at_ (.cells cs) (off + i)) := fun i hi => by
            rw [List.getElem?_take, if_pos hi, List.getElem?_drop]
            exact getD_some (by omega)
          obtain ⟨A, cap, us, rfl, hrow, hbb, hrd, hxr⟩ := h.row ho hsl (by omega) (fun i hi => by
            rw [hes] at hi
            exact List.all_eq_true.1 gs _ (List.mem_of_getElem? (hat i hi)))
          rw [hes] at hrow hrd
          have hlc : ((cs.drop off).take (len * (tiOf C.P el).sz)).length = len * (tiOf C.P el).sz := by rw [List.length_take, List.length_drop]; omega
          have hpx : PR w S ρ s.sh ((cs.drop off).take (len * (tiOf C.P el).sz)) us := ⟨by rw [hrow.1, hlc], fun i c u h1 h2 => by
            have hi : i < len * (tiOf C.P el).sz := by rw [← hlc]; exact (List.getElem?_eq_some_iff.1 h1).1
            rw [hat i hi] at h1
            injection h1 with h1
            subst h1
            exact hxr i u h2⟩
          obtain ⟨f1, f2⟩ := pr_fits (hpx.append hpr)
          have hm : len + ny ≤ maxLen := by have := Nat.le_mul_of_pos_right (len + ny) g6; simp [maxLen]; omega
          exact apn_core (ty := ty) h o' hz hrow (fun h0 => ⟨by rw [ho]; rfl, hbb h0⟩) hsrc hxl (hpr.one_ g2) hm g7 _ f1 f2
        · cases e
      · cases e
    · cases e
  · cases e

/-- 'copy(x, y)', of bytes. -/
def cpbD (Ti : Nat → TI) (O : Nat → Ob) (T T2 : TypeId) (x y : D) : Option (Prop × Nat × Ob × D × List Nat) :=
  match (Ti T).ty, bsrc Ti O T2 y, x with
  | .slice e, some (gy, yl, Ry), .sl o g off len =>
    match (O o).ct with
    | some (.bytes l) => some ((gy ∧ g = (O o).sh.gen ∧ (O o).sh.esz = 1 ∧ (Ti e).sz = 1), o, ⟨(O o).sh, some (.bytes (l.take off ++ yl.take len ++ l.drop (off + min yl.length len)))⟩, .int .i64 (min yl.length len : Nat), o :: Ry)
    | _ => none
  | _, _, _ => none
theorem relay (h : RepW C s ρ S Φ w) (o : Nat) {c : Cont} (ho : (s.ob o).ct = some c) : RepW C (s.lay o ⟨s.sh o, some c⟩) ρ S Φ w ∧ ∀ d v, RV w S ρ s.sh d v [] → RV w S ρ (s.lay o ⟨s.sh o, some c⟩).sh d v [] := by
  have hone := h.one (w' := w) o ⟨s.sh o, some c⟩ (ρ o) (Φ o) rfl rfl rfl (Nat.le_refl _) (Szs.refl w) (.inr ⟨rfl, rfl⟩) (fun _ _ _ => rfl) (fun c' hc' => by
    have e : c = c' := by simpa using hc'
    subst e
    rw [upd_self]
    have : upd s.sh o (⟨s.sh o, some c⟩ : Ob).sh = s.sh := upd_self s.sh o
    rw [this]
    exact h.ob o c ho) (fun _ => ⟨(h.own o c ho).1, fun b hb => ⟨((h.own o c ho).2 b hb).1, ((h.own o c ho).2 b hb).2.1, ((h.own o c ho).2 b hb).2.2.1, ((h.own o c ho).2 b hb).2.2.2, fun o' c' hne hc' => h.dis o o' c c' ho hc' (Ne.symm hne) b hb⟩⟩)
  rw [upd_self, upd_self] at hone
  exact hone
theorem cpb_ok (h : RepW C s ρ S Φ w) {T T2 ty : TypeId} {x y : D} {g : Prop} {o : Nat} {ob : Ob} {d : D} {R : List Nat} (e : cpbD (tiOf C.P) s.ob T T2 x y = some (g, o, ob, d, R)) (hg : g) {vx vy : Value} (hx : RV w S ρ s.sh x vx []) (hy : RV w S ρ s.sh y vy []) :
    Outc C s S ρ w ((Builtin.copy_ #[T, T2] ty #[vx, vy]).run C.P w) (s.lay o ob) d := by
  unfold cpbD at e
  split at e
  · rename_i el gy yl Ry o' g' off len ht hb
    split at e
    · rename_i l ho
      injection e with e; injection e with e1 e2; injection e2 with e2 e3; injection e3 with e3 e4; injection e4 with e4 e5; subst e1; subst e2; subst e3; subst e4
      obtain ⟨g1, gg, ge, g3⟩ := hg
      obtain ⟨hsrc, hn⟩ := bsrc_ok h hb g1 hy
      have hes : (s.sh o').esz = 1 := ge
      have hsl := inv_sl hx gg
      obtain ⟨A, cap, rfl, q1, q2, q3, q4⟩ := id hsl
      have hcl : (s.sh o').clen = l.length := (h.ob o' _ ho).1
      rw [hes] at q3 q4
      have hmin : Nat.min yl.length len = min yl.length len := rfl
      have hcells := hsrc.cells (min yl.length len) w (by omega) rfl
      rw [Nat.mul_one] at hcells
      have hyt : (u8s yl).take (min yl.length len) = u8s (yl.take len) := by
        have e1 : u8s (yl.take len) = (u8s yl).take len := by simp [u8s, List.map_take]
        rw [e1, Nat.min_comm, ← List.take_take, List.take_of_length_le (Nat.le_of_eq (u8s_length yl))]
      rw [hyt] at hcells
      have hlt : (yl.take len).length = min yl.length len := by rw [List.length_take]; omega
      have hl0 := hsrc.len w
      obtain ⟨i, hi, hi2⟩ := sz_ne (P := C.P) (t := el) (by omega)
      have hso : (sizeOf el).run C.P w = .ok 1 w := run_sizeOf hi (by omega)
      by_cases h0 : 0 < min yl.length len
      · rcases q4 with ⟨q4, _⟩ | ⟨rfl, q5⟩
        · omega
        · obtain ⟨w', Φ', k1, k2, k3⟩ := splice_ok h ho off (ds := (yl.take len).map D.u8) (vs := u8s (yl.take len)) (PR.bytes _) (u8_isU8 _) (by simp [Cont.len]; omega) (by simp; omega) C.P
          simp only [Cont.splice, map_toU8, List.length_map, hlt] at k2 k3
          refine ⟨.int .i64 (min yl.length len : Nat), w', ρ, Φ', ?_, k2, k3, .int _ _⟩
          simp only [Builtin.copy_, Sem.run_bind, run_underlying (ti_slice ht), Result.andThen_ok, hl0, hso, hmin, hcells, k1, List.getElem?_toArray, List.getElem?_cons_zero, List.getElem?_cons_succ, Sem.run_pure, goInt]
      · have hm0 : min yl.length len = 0 := by omega
        have hyn : yl.take len = [] := List.eq_nil_of_length_eq_zero (by omega)
        rw [hyn] at hcells
        obtain ⟨k2, k3⟩ := relay h o' ho
        have he : (Cont.bytes (l.take off ++ yl.take len ++ l.drop (off + min yl.length len))) = .bytes l := by rw [hyn, hm0]; simp
        rw [he]
        refine ⟨.int .i64 (min yl.length len : Nat), w, ρ, Φ, ?_, k2, k3, .int _ _⟩
        simp only [Builtin.copy_, Sem.run_bind, run_underlying (ti_slice ht), Result.andThen_ok, hl0, hso, hmin, hcells, List.getElem?_toArray, List.getElem?_cons_zero, List.getElem?_cons_succ, Sem.run_pure, goInt]
        cases A <;> simp [storeCells, u8s]
    · cases e
  · cases e
/-- '[]byte("..")' of a constant: the row gets a mark behind its end. -/
def mkD (Ti : Nat → TI) (O : Nat → Ob) (T T' : TypeId) (x : D) : Option (Prop × Nat × Ob × D × List Nat) :=
  match (Ti T).ty, x with
  | .slice e, .sl o g off len =>
    match (O o).ct with
    | some (.bytes l) => some ((T = T' ∧ (Ti e).ty = .int .u8 ∧ g = (O o).sh.gen ∧ (O o).sh.esz = 1 ∧ 0 < len), o, ⟨(O o).sh, some (.bytes l)⟩, .sl o g off len, [o])
    | _ => none
  | _, _ => none
theorem mark_heap {w : World} {b n : Nat} {cur : Array Value} {E : TypeId} {fz : Nat × Nat} (hh : w.heap[b]? = some (.cells cur E fz)) (hz : Loose fz cur.size) (hn : n = cur.size) :
    ∃ fz', (w.freeze ⟨b, n, none⟩ 1).heap[b]? = some (.cells cur E fz') ∧ Loose fz' cur.size ∧ (∀ b', b' ≠ b → (w.freeze ⟨b, n, none⟩ 1).heap[b']? = w.heap[b']?) ∧ (w.freeze ⟨b, n, none⟩ 1).heap.size = w.heap.size := by
  subst hn
  obtain ⟨lo, hi⟩ := fz
  refine ⟨if lo == hi then (cur.size, cur.size + 1) else (min lo cur.size, max hi (cur.size + 1)), ?_, ?_, fun b' hb' => ?_, ?_⟩
  · unfold World.freeze
    rw [if_neg (by decide)]
    show (w.heap.modify b _)[b]? = _
    rw [Array.getElem?_modify, if_pos rfl, hh]
    rfl
  · unfold Loose at hz ⊢
    split
    · exact .inl (Nat.le_refl _)
    · rename_i hne
      have hne' : lo ≠ hi := by simpa using hne
      have hne' : ¬ hi = lo := fun e => hne' e.symm
      have : cur.size ≤ lo := by rcases hz with hz | hz; exact hz; exact absurd hz hne'
      exact .inl (by simp only [Nat.le_min]; exact ⟨this, Nat.le_refl _⟩)
  · unfold World.freeze
    rw [if_neg (by decide)]
    show (w.heap.modify b _)[b']? = _
    rw [Array.getElem?_modify, if_neg (fun e => hb' e.symm)]
  · unfold World.freeze
    rw [if_neg (by decide)]
    exact Array.size_modify
theorem mrk_ok (h : RepW C s ρ S Φ w) {T T' : TypeId} {x : D} {g : Prop} {o : Nat} {ob : Ob} {d : D} {R : List Nat} (e : mkD (tiOf C.P) s.ob T T' x = some (g, o, ob, d, R)) (hg : g) {v : Value} (hx : RV w S ρ s.sh x v []) :
    Outc C s S ρ w ((convert T T' v).run C.P w) (s.lay o ob) d := by
  unfold mkD at e
  split at e
  · rename_i el o' g' off len ht
    split at e
    · rename_i l ho
      injection e with e; injection e with e1 e2; injection e2 with e2 e3; injection e3 with e3 e4; injection e4 with e4 e5; subst e1; subst e2; subst e3; subst e4
      obtain ⟨rfl, g1, gg, ge, g0⟩ := hg
      have hsl := inv_sl hx gg
      obtain ⟨A, cap, rfl, q1, q2, q3, q4⟩ := id hsl
      obtain ⟨hcl, hrow⟩ := h.ob o' _ ho
      have hes : (s.sh o').esz = 1 := ge
      rw [hes] at q3 q4
      rcases q4 with ⟨q4, _⟩ | ⟨rfl, q5⟩
      · omega
      rcases hrow with ⟨z, _⟩ | ⟨cur, E, fz, Fs, hh, hz, hs, hb, hF, hct⟩
      · simp only [Cont.len] at z hcl; omega
      obtain ⟨fz', m1, m2, m3, m4⟩ := mark_heap hh hz rfl
      have hsh : w.shape? (ρ o').blk = some (E, cur.size) := by unfold World.shape?; rw [hh]
      have hrun : (convert T T (.slice (some ⟨(ρ o').blk, (ρ o').base + off, none⟩) len cap)).run C.P w = .ok (.slice (some ⟨(ρ o').blk, (ρ o').base + off, none⟩) len cap) (w.freeze ⟨(ρ o').blk, cur.size, none⟩ 1) := by
        simp [convert, run_underlying (ti_slice ht), run_underlying (ti_int g1), markStringish, hsh]
      generalize hw' : w.freeze ⟨(ρ o').blk, cur.size, none⟩ 1 = w' at *
      have hos : w'.os = w.os := by rw [← hw']; unfold World.freeze; rw [if_neg (by decide)]
      have htp : w'.tape = w.tape := by rw [← hw']; unfold World.freeze; rw [if_neg (by decide)]
      have hop : w'.output = w.output := by rw [← hw']; unfold World.freeze; rw [if_neg (by decide)]
      have hbl : (ρ o').blk ∈ Φ o' := by rw [hF]; simp
      have hone := h.one (w' := w') o' ⟨s.sh o', some (.bytes l)⟩ (ρ o') (Φ o') hos htp hop (Nat.le_of_eq m4.symm) (fun b cur' E' fz'' hb' => by
        by_cases hbb : b = (ρ o').blk
        · subst hbb
          rw [hh] at hb'
          injection hb' with hb'
          injection hb' with c1 c2 c3
          subst c1
          exact ⟨_, _, _, m1, rfl⟩
        · exact ⟨_, _, _, (m3 b hbb).trans hb', rfl⟩) (.inr ⟨rfl, rfl⟩) (fun b hb' hnb => m3 b fun e => hnb (by rw [ho]; rfl) (e ▸ hbl)) (fun c' hc' => by
        have e : Cont.bytes l = c' := by simpa using hc'
        subst e
        rw [upd_self]
        have : upd s.sh o' (⟨s.sh o', some (.bytes l)⟩ : Ob).sh = s.sh := upd_self s.sh o'
        rw [this]
        exact ⟨hcl, .inr ⟨cur, E, fz', Fs, m1, m2, hs, hb, hF, hct⟩⟩) (fun _ => ⟨(h.own o' _ ho).1, fun b hb' => ⟨((h.own o' _ ho).2 b hb').1, by rw [m4]; exact ((h.own o' _ ho).2 b hb').2.1, ((h.own o' _ ho).2 b hb').2.2.1, ((h.own o' _ ho).2 b hb').2.2.2, fun x c' hne hc' => h.dis o' x _ c' ho hc' (Ne.symm hne) b hb'⟩⟩)
      rw [upd_self, upd_self] at hone
      exact ⟨_, w', ρ, Φ, hrun, hone.1, hone.2, hone.2 _ _ hx⟩
    · cases e
  · cases e
theorem mkD_loc {P : Program} {O O' : Nat → Ob} {T T' : TypeId} {x : D} {g : Prop} {o : Nat} {b : Ob} {d : D} {R : List Nat} (e : mkD (tiOf P) O T T' x = some (g, o, b, d, R)) (h : ∀ o ∈ R, O' o = O o) : mkD (tiOf P) O' T T' x = some (g, o, b, d, R) := by
  unfold mkD at *
  split at e
  · rename_i el o' g' off len ht
    split at e
    · rename_i l ho
      injection e with e; injection e with e1 e2; injection e2 with e2 e3; injection e3 with e3 e4; injection e4 with e4 e5
      subst e1; subst e2; subst e3; subst e4; subst e5
      have q := h o' (by simp)
      simp only [ht, q, ho]
    · cases e
  · cases e
end
end Go.Proofs.YtabkpoklihkifaaDoor

/- Values without names: what a call is handed, and what it hands back; from named values to such, and back. Over any program. -/
namespace Go.Proofs.YtabkpoklihkifaaDoor
open Go Go.RowKit
set_option linter.unusedVariables false
set_option linter.unusedSimpArgs false

def D.pf1 : D → Bool
  | .ros _ _ cs => cs.all D.pf0
  | .rop _ cs => cs.all D.pf0
  | d => d.pf0
/-- It names no object and owns nothing. -/
def D.pf : D → Bool
  | .aggb _ => true
  | .agg cs => cs.all D.pf1
  | .tup cs => cs.all fun d => match d with | .aggb _ => true | .agg cs => cs.all D.pf1 | d => d.pf1
  | d => d.pf1
def D.fr0 : D → Bool
  | .ownb _ => true
  | d => d.pf1
/-- It names no object. -/
def D.fr1 : D → Bool
  | .owns _ _ cs => cs.all D.fr0
  | .ownp cs => cs.all D.fr0
  | .agg cs => cs.all D.fr0
  | .ownb _ => true
  | d => d.pf
def D.fr : D → Bool
  | .tup cs => cs.all D.fr1
  | d => d.fr1
def ρ0 : Nat → Pl := fun _ => ⟨0, 0, 0⟩
def H0 : Nat → Sh := fun _ => ⟨0, 0, 0⟩
/-- A value without names. -/
def NV (w : World) (S : Nat → Prop) (d : D) (v : Value) (F : List Nat) : Prop := RV w S ρ0 H0 d v F

section
variable {w : World} {S : Nat → Prop} {ρ ρ' : Nat → Pl} {H H' : Nat → Sh}
theorem all_get {cs : List D} {p : D → Bool} (h : cs.all p = true) {i : Nat} {c : D} (hi : cs[i]? = some c) : p c = true := List.all_eq_true.1 h c (List.mem_of_getElem? hi)
theorem pf0_nv {d : D} (hd : d.pf0 = true) {v : Value} {F : List Nat} (h : RV w S ρ H d v F) : F = [] ∧ RV w S ρ' H' d v [] := by
  induction h with
  | rof s n f A cap b off us hn hm hp hA hc hr ih => exact ⟨rfl, .rof s n f A cap b off us hn hm hp hA hc (fun i j hi hj => (ih i j hi hj (hp i j hi hj)).2)⟩
  | rpf k j s n f b base us hb hp hc hr ih => exact ⟨rfl, .rpf k j s n f b base us hb hp hc (fun i j hi hj => (ih i j hi hj (hp i j hi hj)).2)⟩
  | _ => first | (cases hd; done) | exact ⟨rfl, by constructor <;> assumption⟩ | exact ⟨rfl, by constructor⟩
theorem pf1_nv {d : D} (hd : d.pf1 = true) {v : Value} {F : List Nat} (h : RV w S ρ H d v F) : F = [] ∧ RV w S ρ' H' d v [] := by
  by_cases h0 : d.pf0 = true
  · exact pf0_nv h0 h
  · cases h with
    | ros s n cs A cap b off us hl hn hm hA hc hr => exact ⟨rfl, .ros s n cs A cap b off us hl hn hm hA hc (fun i c e => (pf0_nv (all_get hd e) (hr i c e)).2)⟩
    | rop off cs b base us hb hc hr => exact ⟨rfl, .rop off cs b base us hb hc (fun i c e => (pf0_nv (all_get hd e) (hr i c e)).2)⟩
    | _ => first | exact absurd hd h0 | (cases hd; done)
theorem flat_of_nil {Fs : List (List Nat)} (h : ∀ (i : Nat) (f : List Nat), Fs[i]? = some f → f = []) : Fs.flatten = [] := by
  apply List.eq_nil_iff_forall_not_mem.2
  intro b hb
  obtain ⟨f, hf, hbf⟩ := List.mem_flatten.1 hb
  obtain ⟨i, hi⟩ := List.getElem?_of_mem hf
  rw [h i f hi] at hbf
  cases hbf
theorem agg_nv {cs : List D} (hd : cs.all D.pf1 = true) {vs : List Value} {Fs : List (List Nat)} (hv : vs.length = cs.length) (hf : Fs.length = cs.length) (hr : ∀ (i : Nat) (c : D) (u : Value) (f : List Nat), cs[i]? = some c → vs[i]? = some u → Fs[i]? = some f → RV w S ρ H c u f) :
    Fs.flatten = [] ∧ RV w S ρ' H' (.agg cs) (.agg vs.toArray) [] := by
  have key : ∀ (i : Nat) (c : D) (u : Value) (f : List Nat), cs[i]? = some c → vs[i]? = some u → Fs[i]? = some f → f = [] ∧ RV w S ρ' H' c u [] := fun i c u f h1 h2 h3 => pf1_nv (all_get hd h1) (hr i c u f h1 h2 h3)
  refine ⟨flat_of_nil fun i f h3 => ?_, RV.agg0 hv fun i c u h1 h2 => ?_⟩
  · have hi : i < Fs.length := (List.getElem?_eq_some_iff.1 h3).1
    exact (key i _ _ f (List.getElem?_eq_getElem (by omega)) (List.getElem?_eq_getElem (by omega)) h3).1
  · have hi : i < cs.length := (List.getElem?_eq_some_iff.1 h1).1
    exact (key i c u _ h1 h2 (List.getElem?_eq_getElem (by omega))).2
theorem pf_nv {d : D} (hd : d.pf = true) {v : Value} {F : List Nat} (h : RV w S ρ H d v F) : F = [] ∧ RV w S ρ' H' d v [] := by
  by_cases h0 : d.pf1 = true
  · exact pf1_nv h0 h
  · cases h with
    | aggb l => exact ⟨rfl, .aggb l⟩
    | agg cs vs Fs F hv hf hF hr =>
      subst hF
      exact agg_nv hd hv hf hr
    | tup cs vs Fs F hv hf hF hr =>
      subst hF
      have key : ∀ (i : Nat) (c : D) (u : Value) (f : List Nat), cs[i]? = some c → vs[i]? = some u → Fs[i]? = some f → f = [] ∧ RV w S ρ' H' c u [] := fun i c u f h1 h2 h3 => by
        have hc := all_get hd h1
        have hr' := hr i c u f h1 h2 h3
        split at hc
        · cases hr'; exact ⟨rfl, .aggb _⟩
        · cases hr' with
          | agg cs vs Fs F hv hf hF hr =>
            subst hF
            exact agg_nv hc hv hf hr
        · exact pf1_nv hc hr'
      refine ⟨flat_of_nil fun i f h3 => ?_, RV.tup0 hv fun i c u h1 h2 => ?_⟩
      · have hi : i < Fs.length := (List.getElem?_eq_some_iff.1 h3).1
        exact (key i _ _ f (List.getElem?_eq_getElem (by omega)) (List.getElem?_eq_getElem (by omega)) h3).1
      · have hi : i < cs.length := (List.getElem?_eq_some_iff.1 h1).1
        exact (key i c u _ h1 h2 (List.getElem?_eq_getElem (by omega))).2
    | _ => first | exact absurd hd h0 | (cases hd; done)
theorem fr0_nv {d : D} (hd : d.fr0 = true) {v : Value} {F : List Nat} (h : RV w S ρ H d v F) : RV w S ρ' H' d v F := by
  by_cases h0 : d.pf1 = true
  · obtain ⟨e, h1⟩ := pf1_nv h0 h (ρ' := ρ') (H' := H')
    rw [e]; exact h1
  · cases h with
    | ownb l A n cap F cur off hl h hc => exact .ownb l A n cap F cur off hl h hc
    | _ => first | exact absurd hd h0 | (cases hd; done)
theorem fr1_nv {d : D} (hd : d.fr1 = true) {v : Value} {F : List Nat} (h : RV w S ρ H d v F) : RV w S ρ' H' d v F := by
  by_cases h0 : d.pf = true
  · obtain ⟨e, h1⟩ := pf_nv h0 h (ρ' := ρ') (H' := H')
    rw [e]; exact h1
  · cases h with
    | ownb l A n cap F cur off hl h hc => exact .ownb l A n cap F cur off hl h hc
    | owns s n cs A cap F F0 Fs cur off hl h hf hF hr => exact .owns s n cs A cap F F0 Fs cur off hl h hf hF (fun i c u f h1 h2 h3 => fr0_nv (all_get hd h1) (hr i c u f h1 h2 h3))
    | ownp cs b base cur E fz F Fs hh hz hs hf hF hr => exact .ownp cs b base cur E fz F Fs hh hz hs hf hF (fun i c u f h1 h2 h3 => fr0_nv (all_get hd h1) (hr i c u f h1 h2 h3))
    | agg cs vs Fs F hv hf hF hr => exact .agg cs vs Fs F hv hf hF (fun i c u f h1 h2 h3 => fr0_nv (all_get hd h1) (hr i c u f h1 h2 h3))
    | _ => first | exact absurd hd h0 | (cases hd; done)
theorem fr_nv {d : D} (hd : d.fr = true) {v : Value} {F : List Nat} (h : RV w S ρ H d v F) : RV w S ρ' H' d v F := by
  by_cases h0 : d.fr1 = true
  · exact fr1_nv h0 h
  · cases h with
    | tup cs vs Fs F hv hf hF hr => exact .tup cs vs Fs F hv hf hF (fun i c u f h1 h2 h3 => fr1_nv (all_get hd h1) (hr i c u f h1 h2 h3))
    | _ => first | exact absurd hd h0 | (cases hd; done)
end

/-- What reads as the one reads as the other, too. -/
def Cnv (d d' : D) : Prop := ∀ (w : World) (S : Nat → Prop) (v : Value) (F : List Nat), NV w S d v F → NV w S d' v F
/-- From a named value to one without names: the objects that it takes, and those that are read only from now on. -/
inductive Mat (s : St) : D → D → List Nat → List Nat → Prop
  | plain (d : D) (h : d.pf = true) : Mat s d d [] []
  | bot (d : D) : Mat s d .bot [] []
  | nil_b : Mat s .nilS (.ownb []) [] []
  | nil_rb : Mat s .nilS (.rob []) [] []
  | nil_s (e : Nat) : Mat s .nilS (.owns e 0 []) [] []
  | nil_rs (e : Nat) : Mat s .nilS (.ros e 0 []) [] []
  | sl_b (o g off len : Nat) (l : List UInt8) (ho : (s.ob o).ct = some (.bytes l)) (hg : g = (s.sh o).gen) (he : (s.sh o).esz = 1) : Mat s (.sl o g off len) (.ownb ((l.drop off).take len)) [o] []
  | sl_rb (o g off len : Nat) (l : List UInt8) (ho : (s.ob o).ct = some (.bytes l)) (hg : g = (s.sh o).gen) (he : (s.sh o).esz = 1) : Mat s (.sl o g off len) (.rob ((l.drop off).take len)) [] [o]
  | sl_s (o g off len e : Nat) (cs cs' : List D) (own fro : List Nat) (ho : (s.ob o).ct = some (.cells cs)) (hg : g = (s.sh o).gen) (he : (s.sh o).esz = e) (h0 : 0 < e) (hsc : ((cs.drop off).take (len * e)).all D.sc = true) (h : Mat s (.tup ((cs.drop off).take (len * e))) (.tup cs') own fro) : Mat s (.sl o g off len) (.owns e len cs') (o :: own) fro
  | sl_rs (o g off len e : Nat) (cs cs' : List D) (fro : List Nat) (ho : (s.ob o).ct = some (.cells cs)) (hg : g = (s.sh o).gen) (he : (s.sh o).esz = e) (h0 : 0 < e) (hsc : ((cs.drop off).take (len * e)).all D.sc = true) (h : Mat s (.tup ((cs.drop off).take (len * e))) (.tup cs') [] fro) : Mat s (.sl o g off len) (.ros e len cs') [] (o :: fro)
  | sl_f (o g len e : Nat) (cs : List D) (ho : (s.ob o).ct = some (.cells cs)) (hg : g = (s.sh o).gen) (he : (s.sh o).esz = e) (h0 : 0 < e) (hl : cs.length = len * e) (hf : cs.all D.fr0 = true) : Mat s (.sl o g 0 len) (.owns e len cs) [o] []
  | ptr_f (o g : Nat) (cs : List D) (ho : (s.ob o).ct = some (.cells cs)) (hg : g = (s.sh o).gen) (hf : cs.all D.fr0 = true) (h0 : 0 < cs.length) : Mat s (.ptr o g 0) (.ownp cs) [o] []
  | ptr (o g : Nat) (cs cs' : List D) (own fro : List Nat) (ho : (s.ob o).ct = some (.cells cs)) (hg : g = (s.sh o).gen) (hsc : cs.all D.sc = true) (h0 : 0 < cs.length) (h : Mat s (.tup cs) (.tup cs') own fro) : Mat s (.ptr o g 0) (.ownp cs') (o :: own) fro
  | ptr_r (o g : Nat) (cs cs' : List D) (fro : List Nat) (ho : (s.ob o).ct = some (.cells cs)) (hg : g = (s.sh o).gen) (hsc : cs.all D.sc = true) (h0 : 0 < cs.length) (h : Mat s (.tup cs) (.tup cs') [] fro) : Mat s (.ptr o g 0) (.rop 0 cs') [] (o :: fro)
  | agg (cs cs' : List D) (own fro : List Nat) (h : Mat s (.tup cs) (.tup cs') own fro) : Mat s (.agg cs) (.agg cs') own fro
  | tnil : Mat s (.tup []) (.tup []) [] []
  | tcons (d d' : D) (ds ds' : List D) (o1 o2 f1 f2 : List Nat) (h : Mat s d d' o1 f1) (hs : Mat s (.tup ds) (.tup ds') o2 f2) : Mat s (.tup (d :: ds)) (.tup (d' :: ds')) (o1 ++ o2) (f1 ++ f2)
  | tall (ds : List D) (h : ds.all D.pf1 = true) : Mat s (.tup ds) (.tup ds) [] []
  | cnv (d d1 d2 : D) (own fro : List Nat) (h : Mat s d d1 own fro) (hc : Cnv d1 d2) : Mat s d d2 own fro
  | tapp (a a' b b' : List D) (o1 o2 f1 f2 : List Nat) (h : Mat s (.tup a) (.tup a') o1 f1) (hs : Mat s (.tup b) (.tup b') o2 f2) : Mat s (.tup (a ++ b)) (.tup (a' ++ b')) (o1 ++ o2) (f1 ++ f2)

section
variable {C : Ctx} {s : St} {ρ : Nat → Pl} {S S' : Nat → Prop} {Φ : Nat → List Nat} {w : World}
/-- A value without names, its blocks those of the objects that are given up. -/
def Got (s : St) (Φ : Nat → List Nat) (w : World) (S' : Nat → Prop) (d : D) (v : Value) (own : List Nat) : Prop :=
  ∃ F, NV w S' d v F ∧ F.Nodup ∧ ∀ b ∈ F, ∃ o ∈ own, (s.ob o).ct.isSome = true ∧ b ∈ Φ o
theorem got_plain {d : D} {v : Value} {own : List Nat} (h : NV w S' d v []) : Got s Φ w S' d v own := ⟨[], h, by simp, by simp⟩
theorem nv_S {d : D} {v : Value} {F : List Nat} (hS : ∀ b, S b → S' b) (h : RV w S ρ H0 d v F) : RV w S' ρ H0 d v F :=
  h.mono hS (fun _ _ => rfl) (fun _ => ⟨Nat.le_refl _, fun _ => ⟨rfl, rfl⟩⟩) (fun _ _ => rfl)
/-- The components of a list. -/
theorem nv_tup {cs : List D} {v : Value} {F : List Nat} (h : NV w S' (.tup cs) v F) : ∃ (vs : List Value) (Fs : List (List Nat)), v = .tuple vs.toArray ∧ vs.length = cs.length ∧ Fs.length = cs.length ∧ F = Fs.flatten ∧ ∀ (i : Nat) (c : D) (u : Value) (f : List Nat), cs[i]? = some c → vs[i]? = some u → Fs[i]? = some f → NV w S' c u f := by
  cases h with
  | tup _ vs Fs F hv hf hF hr => exact ⟨vs, Fs, rfl, hv, hf, hF, hr⟩
theorem tuple_inj {a b : List Value} (h : Value.tuple a.toArray = Value.tuple b.toArray) : a = b := by
  injection h with h
  simpa using h

/-- A row, as a slice that owns it. -/
theorem RowX.at_ {s : Nat} {A : Option Addr} {n cap b : Nat} {xs : List Value} (h : RowX w s A n cap xs b) : ∃ F cur off, RowAt w A n cap s F cur off ∧ (F = [] ∨ (F = [b] ∧ 0 < cap)) ∧ (∀ i, i < n * s → cur[off + i]? = xs[i]?) ∧
    (0 < cap → A = some ⟨b, off, none⟩ ∧ ∃ E fz, w.heap[b]? = some (.cells cur E fz)) := by
  obtain ⟨h1, h2, h3, h4⟩ := h
  by_cases hc : cap = 0
  · subst hc
    obtain rfl : n = 0 := by omega
    exact ⟨[], #[], 0, ⟨Nat.le_refl _, h3, .inl ⟨rfl, rfl, rfl⟩⟩, .inl rfl, fun i hi => by rw [Nat.zero_mul] at hi; omega, fun h => absurd h (by omega)⟩
  · rcases h4 with ⟨_, h0⟩ | ⟨off, cur, E, fz, hA, hh, hz, hfit, htk⟩
    · exact absurd h0 hc
    · refine ⟨[b], cur, off, ⟨h2, h3, .inr ⟨b, E, fz, rfl, hA, hh, hz, hfit⟩⟩, .inr ⟨rfl, by omega⟩, fun i hi => ?_, fun _ => ⟨hA, E, fz, hh⟩⟩
      rw [← htk, List.getElem?_take, if_pos hi, List.getElem?_drop, Array.getElem?_toList]
theorem RepW.rowb (h : RepW C s ρ S Φ w) {o off len : Nat} {l : List UInt8} (ho : (s.ob o).ct = some (.bytes l)) (he : (s.sh o).esz = 1) {v : Value} (hs : SlAt (ρ o) (s.sh o) off len v) :
    ∃ A cap, v = .slice A len cap ∧ RowX w 1 A len cap (u8s ((l.drop off).take len)) (ρ o).blk ∧ (0 < cap → (ρ o).blk ∈ Φ o) ∧ ((l.drop off).take len).length = len := by
  obtain ⟨A, cap, xs, rfl, hrow, hbb, hrd, hxr⟩ := h.row ho hs (by omega) (fun i _ => rfl)
  rw [he] at hrow hrd
  have hxl := hrow.1
  rw [Nat.mul_one] at hxl
  have hll : off + len ≤ l.length := by
    obtain ⟨_, _, _, _, _, q, _⟩ := hs
    have hcl : (s.sh o).clen = l.length := (h.ob o _ ho).1
    rw [he] at q
    omega
  have hxs : xs = u8s ((l.drop off).take len) := by
    apply List.ext_getElem?
    intro i
    rcases Nat.lt_or_ge i len with hi | hi
    · have hix : i < xs.length := by omega
      have h1 := hxr i _ (List.getElem?_eq_getElem hix)
      rw [List.getElem?_eq_getElem hix, u8s_get, List.getElem?_take, if_pos hi, List.getElem?_drop, gb_of (show off + i < l.length by omega), inv_u8 h1]
      rfl
    · rw [List.getElem?_eq_none (by omega), List.getElem?_eq_none (by rw [u8s_length, List.length_take]; omega)]
  subst hxs
  exact ⟨A, cap, rfl, hrow, hbb, by rw [List.length_take, List.length_drop]; omega⟩
/-- The elements of a slice into cells. -/
theorem RepW.rowc (h : RepW C s ρ S Φ w) {o off len e : Nat} {cs : List D} (ho : (s.ob o).ct = some (.cells cs)) (he : (s.sh o).esz = e) (h0 : 0 < e) (hsc : ((cs.drop off).take (len * e)).all D.sc = true) {v : Value} (hs : SlAt (ρ o) (s.sh o) off len v) :
    ∃ A cap xs, v = .slice A len cap ∧ RowX w e A len cap xs (ρ o).blk ∧ (0 < cap → (ρ o).blk ∈ Φ o) ∧ PR w S ρ s.sh ((cs.drop off).take (len * e)) xs ∧ xs.length = len * e ∧ off + len * e ≤ cs.length := by
  have hll : off + len * e ≤ cs.length := by
    obtain ⟨_, _, _, _, _, q, _⟩ := hs
    have hcl : (s.sh o).clen = cs.length := (h.ob o _ ho).1
    rw [he] at q
    omega
  have hat : ∀ i, i < len * e → ((cs.drop off).take (len * e))[i]? = some (Cont.at_ (.cells cs) (off + i)) := fun i hi => by
    rw [List.getElem?_take, if_pos hi, List.getElem?_drop]
    exact getD_some (by omega)
  obtain ⟨A, cap, xs, rfl, hrow, hbb, hrd, hxr⟩ := h.row ho hs (by omega) (fun i hi => by
    rw [he] at hi
    exact List.all_eq_true.1 hsc _ (List.mem_of_getElem? (hat i hi)))
  rw [he] at hrow
  have hlc : ((cs.drop off).take (len * e)).length = len * e := by rw [List.length_take, List.length_drop]; omega
  refine ⟨A, cap, xs, rfl, hrow, hbb, ⟨by rw [hrow.1, hlc], fun i c u h1 h2 => ?_⟩, hrow.1, hll⟩
  have hi : i < len * e := by rw [← hlc]; exact (List.getElem?_eq_some_iff.1 h1).1
  rw [hat i hi] at h1
  injection h1 with h1
  subst h1
  exact hxr i u h2
theorem PR.tup {H : Nat → Sh} {cs : List D} {xs : List Value} (h : PR w S ρ H cs xs) : RV w S ρ H (.tup cs) (.tuple xs.toArray) [] := RV.tup0 h.1 h.2
theorem nodup_two (h : RepW C s ρ S Φ w) {o1 o2 F1 F2 : List Nat} (hn : (o1 ++ o2).Nodup) (h1 : F1.Nodup) (h2 : F2.Nodup) (hF1 : ∀ b ∈ F1, ∃ o ∈ o1, (s.ob o).ct.isSome = true ∧ b ∈ Φ o) (hF2 : ∀ b ∈ F2, ∃ o ∈ o2, (s.ob o).ct.isSome = true ∧ b ∈ Φ o) : (F1 ++ F2).Nodup := by
  rw [List.nodup_append] at hn ⊢
  refine ⟨h1, h2, fun b hb b' hb' e => ?_⟩
  subst e
  obtain ⟨p, hp, hl, hbp⟩ := hF1 b hb
  obtain ⟨q, hq, hl', hbq⟩ := hF2 b hb'
  obtain ⟨c, hc⟩ := Option.isSome_iff_exists.1 hl
  obtain ⟨c', hc'⟩ := Option.isSome_iff_exists.1 hl'
  exact h.dis p q c c' hc hc' (hn.2.2 p hp q hq) b hbp hbq

theorem Mat.sound (h : RepW C s ρ S Φ w) (hS : ∀ b, S b → S' b) {d d' : D} {own fro : List Nat} (hm : Mat s d d' own fro) :
    (∀ o ∈ fro, ∀ c, (s.ob o).ct = some c → 0 < c.len → S' (ρ o).blk) → own.Nodup → ∀ {v : Value}, RV w S ρ s.sh d v [] → Got s Φ w S' d' v own := by
  induction hm with
  | plain d hd => intro _ _ v hr; exact got_plain (nv_S hS (pf_nv hd hr).2)
  | bot d => intro _ _ v hr; exact got_plain (.bot v)
  | nil_b => intro _ _ v hr; obtain rfl := inv_nilS hr; exact got_plain (.ownb [] none 0 0 [] #[] 0 rfl ⟨Nat.le_refl _, by simp [maxLen], .inl ⟨rfl, rfl, rfl⟩⟩ (fun i hi => absurd hi (by omega)))
  | nil_rb => intro _ _ v hr; obtain rfl := inv_nilS hr; exact got_plain (.rob [] none 0 0 ⟨rfl, Nat.le_refl _, by simp [maxLen], fun h => absurd h (by omega)⟩)
  | nil_s e => intro _ _ v hr; obtain rfl := inv_nilS hr; exact got_plain (.owns e 0 [] none 0 [] [] [] #[] 0 (by simp) ⟨Nat.le_refl _, by simp [maxLen], .inl ⟨rfl, rfl, rfl⟩⟩ rfl rfl (fun i c u f h => by simp at h))
  | nil_rs e => intro _ _ v hr; obtain rfl := inv_nilS hr; exact got_plain (.ros e 0 [] none 0 0 0 (fun _ => undef) (by simp) (Nat.le_refl _) (by simp [maxLen]) (fun h => absurd h (by omega)) (fun h => absurd h (by omega)) (fun i c h => by simp at h))
  | sl_b o g off len l ho hg he =>
    intro _ _ v hr
    obtain ⟨A, cap, rfl, hrow, hbb, hlen⟩ := h.rowb ho he (inv_sl hr hg)
    obtain ⟨F, cur, off', h1, h2, h3, _⟩ := hrow.at_
    refine ⟨F, .ownb _ A len cap F cur off' hlen h1 (fun i hi => ?_), ?_, ?_⟩
    · rw [h3 i (by omega), u8s_get, gb_of (by omega)]
      rfl
    · rcases h2 with rfl | ⟨rfl, _⟩ <;> simp
    · rcases h2 with rfl | ⟨rfl, hc⟩
      · simp
      · intro b hb
        obtain rfl : b = (ρ o).blk := by simpa using hb
        exact ⟨o, by simp, by rw [ho]; rfl, hbb hc⟩
  | sl_rb o g off len l ho hg he =>
    intro hfr _ v hr
    obtain ⟨A, cap, rfl, hrow, hbb, hlen⟩ := h.rowb ho he (inv_sl hr hg)
    obtain ⟨F, cur, off', h1, h2, h3, h4⟩ := hrow.at_
    have hll : off + len ≤ l.length := by
      obtain ⟨_, _, _, _, _, q, _⟩ := inv_sl hr hg
      have hcl : (s.sh o).clen = l.length := (h.ob o _ ho).1
      rw [he] at q
      omega
    refine got_plain (.rob _ A len cap ⟨hlen, hrow.2.1, hrow.2.2.1, fun hn => ?_⟩)
    obtain ⟨rfl, E, fz, hh⟩ := h4 (by have := hrow.2.1; omega)
    refine ⟨_, off', rfl, hfr o (by simp) _ ho (by simp [Cont.len]; omega), fun i hi => ?_⟩
    rw [cell_of_row w _ _ cur E fz hh, h3 i (by omega), u8s_get, gb_of (by omega)]
    rfl
  | sl_s o g off len e cs cs' own fro ho hg he h0 hsc hm ih =>
    intro hfr hnd v hr
    obtain ⟨A, cap, xs, rfl, hrow, hbb, hpr, hxl, hll⟩ := h.rowc ho he h0 hsc (inv_sl hr hg)
    obtain ⟨F0, cur, off', h1, h2, h3, _⟩ := hrow.at_
    rw [List.nodup_cons] at hnd
    obtain ⟨F, k1, k2, k3⟩ := ih hfr hnd.2 hpr.tup
    obtain ⟨vs', Fs, e', q1, q2, q3, q4⟩ := nv_tup k1
    obtain rfl := tuple_inj e'
    subst q3
    have hF0 : ∀ b ∈ F0, ∃ o' ∈ [o], (s.ob o').ct.isSome = true ∧ b ∈ Φ o' := by
      rcases h2 with rfl | ⟨rfl, hc⟩
      · simp
      · intro b hb
        obtain rfl : b = (ρ o).blk := by simpa using hb
        exact ⟨o, by simp, by rw [ho]; rfl, hbb hc⟩
    refine ⟨F0 ++ Fs.flatten, .owns e len cs' A cap _ F0 Fs cur off' (by rw [← q1, hxl]) h1 q2 rfl (fun i c u f p1 p2 p3 => ?_), ?_, ?_⟩
    · have hi : i < len * e := by rw [← hxl, q1]; exact (List.getElem?_eq_some_iff.1 p1).1
      rw [h3 i hi] at p2
      exact q4 i c u f p1 p2 p3
    · exact nodup_two h (o1 := [o]) (o2 := own) (by simpa using hnd) (by rcases h2 with rfl | ⟨rfl, _⟩ <;> simp) k2 hF0 k3
    · intro b hb
      rcases List.mem_append.1 hb with hb | hb
      · obtain ⟨o', ho', r⟩ := hF0 b hb
        exact ⟨o', by simp at ho'; simp [ho'], r⟩
      · obtain ⟨o', ho', r⟩ := k3 b hb
        exact ⟨o', by simp [ho'], r⟩
  | sl_rs o g off len e cs cs' fro ho hg he h0 hsc hm ih =>
    intro hfr hnd v hr
    obtain ⟨A, cap, xs, rfl, hrow, hbb, hpr, hxl, hll⟩ := h.rowc ho he h0 hsc (inv_sl hr hg)
    obtain ⟨F0, cur, off', h1, h2, h3, h4⟩ := hrow.at_
    obtain ⟨F, k1, k2, k3⟩ := ih (fun o ho => hfr o (by simp [ho])) hnd hpr.tup
    have hF : F = [] := List.eq_nil_iff_forall_not_mem.2 fun b hb => by obtain ⟨o', ho', _⟩ := k3 b hb; cases ho'
    subst hF
    obtain ⟨vs', Fs, e', q1, q2, q3, q4⟩ := nv_tup k1
    obtain rfl := tuple_inj e'
    have hpos : 0 < len → A = some ⟨(ρ o).blk, off', none⟩ ∧ S' (ρ o).blk := fun hn => by
      obtain ⟨e1, E, fz, hh⟩ := h4 (by have := hrow.2.1; omega)
      refine ⟨e1, hfr o (by simp) _ ho ?_⟩
      have := Nat.mul_pos hn h0
      simp [Cont.len]
      omega
    refine got_plain (.ros e len cs' A cap (ρ o).blk off' (fun i => xs.getD i undef) (by rw [← q1, hxl]) hrow.2.1 hrow.2.2.1 hpos (fun hn i c p1 => ?_) (fun i c p1 => ?_))
    · have hi : i < xs.length := by rw [q1]; exact (List.getElem?_eq_some_iff.1 p1).1
      obtain ⟨e1, E, fz, hh⟩ := h4 (by have := hrow.2.1; omega)
      rw [cell_of_row w _ _ cur E fz hh, h3 i (by omega), List.getD_eq_getElem?_getD, List.getElem?_eq_getElem hi]
      rfl
    · have hi : i < xs.length := by rw [q1]; exact (List.getElem?_eq_some_iff.1 p1).1
      have hif : i < Fs.length := by rw [q2]; exact (List.getElem?_eq_some_iff.1 p1).1
      have := q4 i c _ _ p1 (List.getElem?_eq_getElem hi) (List.getElem?_eq_getElem hif)
      rw [flat_nil_of q3.symm (List.getElem?_eq_getElem hif)] at this
      rw [List.getD_eq_getElem?_getD, List.getElem?_eq_getElem hi]
      exact this
  | sl_f o g len e cs ho hg he h0 hl hf =>
    intro _ _ v hr
    obtain ⟨A, cap, rfl, r1, r2, r3, r4⟩ := inv_sl hr hg
    rw [he] at r3 r4
    obtain ⟨hcl, h2⟩ := h.ob o _ ho
    have nil : len = 0 → cap = 0 → Got s Φ w S' (.owns e len cs) (.slice A len cap) [o] := fun e1 e2 => by
      subst e1; subst e2
      obtain rfl : cs = [] := List.eq_nil_of_length_eq_zero (by rw [hl, Nat.zero_mul])
      exact got_plain (.owns e 0 [] A 0 [] [] [] #[] 0 (by simp) ⟨Nat.le_refl _, by simp [maxLen], .inl ⟨rfl, rfl, rfl⟩⟩ rfl rfl (fun i c u f h => by simp at h))
    rcases r4 with ⟨e1, e2⟩ | ⟨hA, hfit⟩
    · exact nil e1 e2
    · rcases h2 with ⟨h1, _, hp⟩ | ⟨cur, E, fz, Fs, hh, hz, hs, hb, hF, hct⟩
      · have e1 : cs.length = 0 := h1
        rw [hl] at e1
        rcases Nat.mul_eq_zero.1 e1 with e1 | e1
        · refine nil e1 ?_
          rw [hp] at hfit
          rcases Nat.eq_zero_or_pos cap with hc | hc
          · exact hc
          · have := Nat.mul_pos hc h0; omega
        · omega
      · refine ⟨Φ o, .owns e len cs A cap _ [(ρ o).blk] Fs cur (ρ o).base hl ⟨r1, r2, .inr ⟨_, E, fz, rfl, by rw [hA]; rfl, hh, hz, by rw [hs]; simpa using hfit⟩⟩ hct.1 (by rw [hF]; rfl) (fun i c u f p1 p2 p3 => nv_S hS (fr0_nv (all_get hf p1) (hct.2 i c u f p1 p2 p3))), (h.own o _ ho).1, fun b hb => ⟨o, by simp, by rw [ho]; rfl, hb⟩⟩
  | ptr_f o g cs ho hg hf h0 =>
    intro _ _ v hr
    obtain rfl := inv_ptr hr hg
    obtain ⟨hcl, h2⟩ := h.ob o _ ho
    rcases h2 with ⟨h1, _⟩ | ⟨cur, E, fz, Fs, hh, hz, hs, hb, hF, hct⟩
    · simp [Cont.len] at h1; subst h1; simp at h0
    · refine ⟨Φ o, .ownp cs (ρ o).blk (ρ o).base cur E fz _ Fs hh hz (by rw [hs]; exact hb) hct.1 hF (fun i c u f p1 p2 p3 => nv_S hS (fr0_nv (all_get hf p1) (hct.2 i c u f p1 p2 p3))), (h.own o _ ho).1, fun b hb => ⟨o, by simp, by rw [ho]; rfl, hb⟩⟩
  | ptr o g cs cs' own fro ho hg hsc h0 hm ih =>
    intro hfr hnd v hr
    obtain rfl := inv_ptr hr hg
    obtain ⟨hcl, h2⟩ := h.ob o _ ho
    rcases h2 with ⟨h1, _⟩ | ⟨cur, E, fz, Fs0, hh, hz, hs, hb, hF0, hct⟩
    · simp [Cont.len] at h1; subst h1; simp at h0
    · obtain ⟨us, hu1, hu2⟩ := list_of (Q := fun i u => cur[(ρ o).base + i]? = some u ∧ RV w S ρ s.sh (cs.getD i .bot) u []) cs.length (fun i hi => by
        obtain ⟨u, hu, hru⟩ := h.cell ho (i := i) hi (all_get hsc (getD_some hi))
        rw [cell_of_row w _ _ cur E fz hh] at hu
        exact ⟨u, hu, hru⟩)
      have hpr : PR w S ρ s.sh cs us := ⟨hu1, fun i c u p1 p2 => by
        have := (hu2 i u p2).2
        rw [List.getD_eq_getElem?_getD, p1] at this
        exact this⟩
      rw [List.nodup_cons] at hnd
      obtain ⟨F, k1, k2, k3⟩ := ih hfr hnd.2 hpr.tup
      obtain ⟨vs', Fs, e', q1, q2, q3, q4⟩ := nv_tup k1
      obtain rfl := tuple_inj e'
      subst q3
      have hF1 : ∀ b ∈ [(ρ o).blk], ∃ o' ∈ [o], (s.ob o').ct.isSome = true ∧ b ∈ Φ o' := by
        intro b hb
        obtain rfl : b = (ρ o).blk := by simpa using hb
        exact ⟨o, by simp, by rw [ho]; rfl, by rw [hF0]; simp⟩
      refine ⟨(ρ o).blk :: Fs.flatten, .ownp cs' (ρ o).blk (ρ o).base cur E fz _ Fs hh hz (by rw [hs, ← q1, hu1]; exact hb) q2 rfl (fun i c u f p1 p2 p3 => ?_), ?_, ?_⟩
      · have hi : i < us.length := by rw [q1]; exact (List.getElem?_eq_some_iff.1 p1).1
        have h5 := (hu2 i _ (List.getElem?_eq_getElem hi)).1
        rw [p2] at h5
        injection h5 with h5
        exact q4 i c u f p1 (by rw [List.getElem?_eq_getElem hi, h5]) p3
      · exact nodup_two h (o1 := [o]) (o2 := own) (F1 := [(ρ o).blk]) (by simpa using hnd) (by simp) k2 hF1 k3
      · intro b hb
        rcases List.mem_cons.1 hb with rfl | hb
        · exact ⟨o, by simp, by rw [ho]; rfl, by rw [hF0]; simp⟩
        · obtain ⟨o', ho', r⟩ := k3 b hb
          exact ⟨o', by simp [ho'], r⟩
  | ptr_r o g cs cs' fro ho hg hsc h0 hm ih =>
    intro hfr hnd v hr
    obtain rfl := inv_ptr hr hg
    obtain ⟨hcl, h2⟩ := h.ob o _ ho
    rcases h2 with ⟨h1, _⟩ | ⟨cur, E, fz, Fs0, hh, hz, hs, hb, hF0, hct⟩
    · simp [Cont.len] at h1; subst h1; simp at h0
    · obtain ⟨us, hu1, hu2⟩ := list_of (Q := fun i u => w.cell? ⟨(ρ o).blk, (ρ o).base + i, none⟩ = some u ∧ RV w S ρ s.sh (cs.getD i .bot) u []) cs.length (fun i hi => by
        obtain ⟨u, hu, hru⟩ := h.cell ho (i := i) hi (all_get hsc (getD_some hi))
        exact ⟨u, hu, hru⟩)
      have hpr : PR w S ρ s.sh cs us := ⟨hu1, fun i c u p1 p2 => by
        have := (hu2 i u p2).2
        rw [List.getD_eq_getElem?_getD, p1] at this
        exact this⟩
      obtain ⟨F, k1, k2, k3⟩ := ih (fun o ho => hfr o (by simp [ho])) hnd hpr.tup
      have hF : F = [] := List.eq_nil_iff_forall_not_mem.2 fun b hb => by obtain ⟨o', ho', _⟩ := k3 b hb; cases ho'
      subst hF
      obtain ⟨vs', Fs, e', q1, q2, q3, q4⟩ := nv_tup k1
      obtain rfl := tuple_inj e'
      refine got_plain (.rop 0 cs' (ρ o).blk (ρ o).base (fun i => us.getD i undef) (hfr o (by simp) _ ho (by simpa [Cont.len] using h0)) (fun i c p1 => ?_) (fun i c p1 => ?_))
      · have hi : i < us.length := by rw [q1]; exact (List.getElem?_eq_some_iff.1 p1).1
        have := (hu2 i _ (List.getElem?_eq_getElem hi)).1
        rw [List.getD_eq_getElem?_getD, List.getElem?_eq_getElem hi]
        exact this
      · have hi : i < us.length := by rw [q1]; exact (List.getElem?_eq_some_iff.1 p1).1
        have hif : i < Fs.length := by rw [q2]; exact (List.getElem?_eq_some_iff.1 p1).1
        have := q4 i c _ _ p1 (List.getElem?_eq_getElem hi) (List.getElem?_eq_getElem hif)
        rw [flat_nil_of q3.symm (List.getElem?_eq_getElem hif)] at this
        rw [List.getD_eq_getElem?_getD, List.getElem?_eq_getElem hi]
        exact this
  | agg cs cs' own fro hm ih =>
    intro hfr hnd v hr
    obtain ⟨vs, rfl, hl, hr⟩ := inv_agg hr
    obtain ⟨F, h1, h2, h3⟩ := ih hfr hnd (RV.tup0 hl hr)
    obtain ⟨vs', Fs, e, q1, q2, q3, q4⟩ := nv_tup h1
    obtain rfl := tuple_inj e
    exact ⟨F, .agg _ _ Fs F q1 q2 q3 q4, h2, h3⟩
  | tnil => intro _ _ v hr; obtain ⟨vs, rfl, hl, _⟩ := inv_tup hr; exact got_plain (RV.tup0 hl (fun i c u h => by simp at h))
  | cnv d d1 d2 own fro hm hc ih =>
    intro hfr hnd v hr
    obtain ⟨F, h1, h2, h3⟩ := ih hfr hnd hr
    exact ⟨F, hc _ _ _ _ h1, h2, h3⟩
  | tall ds hd =>
    intro _ _ v hr
    obtain ⟨vs, rfl, hl, hr⟩ := inv_tup hr
    exact got_plain (RV.tup0 hl (fun i c u h1 h2 => nv_S hS (pf1_nv (all_get hd h1) (hr i c u h1 h2)).2))
  | tcons d d' ds ds' o1 o2 f1 f2 hm hms ih ihs =>
    intro hfr hnd v hr
    obtain ⟨vs, rfl, hl, hr⟩ := inv_tup hr
    rcases vs with _ | ⟨u, us⟩
    · simp at hl
    · have hnd' := List.nodup_append.1 hnd
      obtain ⟨F1, k1, k2, k3⟩ := ih (fun o ho => hfr o (by simp [ho])) hnd'.1 (hr 0 d u rfl rfl)
      obtain ⟨F2, j1, j2, j3⟩ := ihs (fun o ho => hfr o (by simp [ho])) hnd'.2.1 (v := .tuple us.toArray) (RV.tup0 (by simpa using hl) (fun i c u h1 h2 => hr (i + 1) c u (by simpa using h1) (by simpa using h2)))
      obtain ⟨vs', Fs, e', q1, q2, q3, q4⟩ := nv_tup j1
      obtain rfl := tuple_inj e'
      subst q3
      refine ⟨F1 ++ Fs.flatten, .tup _ (u :: us) (F1 :: Fs) _ (by simpa using q1) (by simpa using q2) (by simp) (fun i c x f p1 p2 p3 => ?_), nodup_two h hnd k2 j2 k3 j3, fun b hb => ?_⟩
      · rcases i with _ | i
        · injection p1 with p1; injection p2 with p2; injection p3 with p3
          subst p1; subst p2; subst p3
          exact k1
        · exact q4 i c x f (by simpa using p1) (by simpa using p2) (by simpa using p3)
      · rcases List.mem_append.1 hb with hb | hb
        · obtain ⟨o', ho', r⟩ := k3 b hb; exact ⟨o', by simp [ho'], r⟩
        · obtain ⟨o', ho', r⟩ := j3 b hb; exact ⟨o', by simp [ho'], r⟩
  | tapp a a' b b' o1 o2 f1 f2 hm hms ih ihs =>
    intro hfr hnd v hr
    obtain ⟨vs, rfl, hl, hr⟩ := inv_tup hr
    have hl' : vs.length = a.length + b.length := by simpa using hl
    have hnd' := List.nodup_append.1 hnd
    obtain ⟨F1, k1, k2, k3⟩ := ih (fun o ho => hfr o (by simp [ho])) hnd'.1 (v := .tuple (vs.take a.length).toArray) (RV.tup0 (by rw [List.length_take]; omega) (fun i c u h1 h2 => by
      have hi := (List.getElem?_eq_some_iff.1 h1).1
      rw [List.getElem?_take, if_pos hi] at h2
      exact hr i c u (by rw [List.getElem?_append_left hi]; exact h1) h2))
    obtain ⟨F2, j1, j2, j3⟩ := ihs (fun o ho => hfr o (by simp [ho])) hnd'.2.1 (v := .tuple (vs.drop a.length).toArray) (RV.tup0 (by rw [List.length_drop]; omega) (fun i c u h1 h2 => by
      rw [List.getElem?_drop] at h2
      exact hr (a.length + i) c u (by rw [List.getElem?_append_right (by omega)]; simpa using h1) h2))
    obtain ⟨vs1, Fs1, e1, q1, q2, q3, q4⟩ := nv_tup k1
    obtain ⟨vs2, Fs2, e2, r1, r2, r3, r4⟩ := nv_tup j1
    have e1' := tuple_inj e1
    have e2' := tuple_inj e2
    subst e1'
    subst e2'
    subst q3
    subst r3
    have ha' : a'.length = a.length := by rw [← q1, List.length_take]; omega
    refine ⟨Fs1.flatten ++ Fs2.flatten, .tup _ vs (Fs1 ++ Fs2) _ (by rw [List.length_append, ← q1, ← r1, List.length_take, List.length_drop]; omega) (by simp [q2, r2]) (by simp) (fun i c x f p1 p2 p3 => ?_), nodup_two h hnd k2 j2 k3 j3, fun b hb => ?_⟩
    · by_cases hi : i < a'.length
      · rw [List.getElem?_append_left hi] at p1
        rw [List.getElem?_append_left (by omega)] at p3
        exact q4 i c x f p1 (by rw [List.getElem?_take, if_pos (by omega)]; exact p2) p3
      · rw [List.getElem?_append_right (by omega)] at p1
        rw [List.getElem?_append_right (by omega)] at p3
        refine r4 (i - a'.length) c x f p1 (by rw [List.getElem?_drop, ← p2]; congr 1; omega) (by rw [q2] at p3; exact p3)
    · rcases List.mem_append.1 hb with hb | hb
      · obtain ⟨o', ho', r⟩ := k3 b hb; exact ⟨o', by simp [ho'], r⟩
      · obtain ⟨o', ho', r⟩ := j3 b hb; exact ⟨o', by simp [ho'], r⟩
end
end Go.Proofs.YtabkpoklihkifaaDoor

/- Contracts of functions, without names; how a call's answer is taken in. Over any program. -/
namespace Go.Proofs.YtabkpoklihkifaaDoor
open Go Go.RowKit
set_option linter.unusedVariables false
set_option linter.unusedSimpArgs false

/-- A value without names is taken in: what it owns becomes an object. -/
def adopt1 (s : St) (t : Nat) (d : D) : D × St :=
  match d with
  | .ownb l => (.sl t ((s.sh t).gen + 1) 0 l.length, s.lay1 t 1 (.bytes l))
  | .owns e n cs => (.sl t ((s.sh t).gen + 1) 0 n, s.lay1 t e (.cells cs))
  | .ownp cs => (.ptr t ((s.sh t).gen + 1) 0, s.lay1 t 1 (.cells cs))
  | d => (d, s)
def adoptL (s : St) (t : Nat) : List D → List D × St
  | [] => ([], s)
  | d :: ds => ((adopt1 s t d).1 :: (adoptL (adopt1 s t d).2 (t + 1000) ds).1, (adoptL (adopt1 s t d).2 (t + 1000) ds).2)
/-- A list whose first value may be a structure that owns rows. -/
def adoptT (s : St) (t : Nat) (ds : List D) : List D × St :=
  match ds with
  | .agg cs :: ds => (.agg (adoptL s (t + 500) cs).1 :: (adoptL (adoptL s (t + 500) cs).2 (t + 1000) ds).1, (adoptL (adoptL s (t + 500) cs).2 (t + 1000) ds).2)
  | ds => adoptL s t ds
def adopt (s : St) (t : Nat) (d : D) : D × St :=
  match d with
  | .tup ds => (.tup (adoptT s t ds).1, (adoptT s t ds).2)
  | .agg cs => (.agg (adoptL s (t + 500) cs).1, (adoptL s (t + 500) cs).2)
  | d => adopt1 s t d
def D.ad1 : D → Bool
  | .ownb _ => true
  | .owns _ _ cs => cs.all D.fr0
  | .ownp cs => cs.all D.fr0
  | d => d.pf
def D.adL : List D → Bool
  | .agg cs :: ds => cs.all D.ad1 && ds.all D.ad1
  | ds => ds.all D.ad1
def D.ad : D → Bool
  | .tup ds => D.adL ds
  | .agg cs => cs.all D.ad1
  | d => d.ad1

/-- Blocks that belong to no object yet. -/
def Aside (C : Ctx) (s : St) (S : Nat → Prop) (Φ : Nat → List Nat) (w : World) (X : List Nat) : Prop :=
  X.Nodup ∧ ∀ b ∈ X, ¬ S b ∧ b < w.heap.size ∧ (C.w0.heap.size ≤ b ∨ b ∈ C.M) ∧ b ∉ s.dk ∧ ∀ o c, (s.ob o).ct = some c → b ∉ Φ o

section
variable {C : Ctx} {s : St} {ρ : Nat → Pl} {S : Nat → Prop} {Φ : Nat → List Nat} {w : World}
/-- An object is laid over blocks that are there. -/
theorem lay_there (h : RepW C s ρ S Φ w) (t esz : Nat) (c : Cont) {F X : List Nat} (hx : Aside C s S Φ w (F ++ X)) (p : Pl) (hob : ObR w S (upd ρ t p) (s.lay1 t esz c).sh p ⟨(s.sh t).gen + 1, esz, c.len⟩ c F) :
    RepW C (s.lay1 t esz c) (upd ρ t p) S (upd Φ t F) w ∧ (∀ d v, RV w S ρ s.sh d v [] → RV w S (upd ρ t p) (s.lay1 t esz c).sh d v []) ∧ Aside C (s.lay1 t esz c) S (upd Φ t F) w X := by
  obtain ⟨hn, hx⟩ := hx
  have hn' := List.nodup_append.1 hn
  have hsh : (s.lay1 t esz c).sh = upd s.sh t (s.nxt t esz c).sh := by unfold St.lay1; rw [St.sh_lay]
  rw [hsh] at hob
  have hone := h.one (w' := w) t (s.nxt t esz c) p F rfl rfl rfl (Nat.le_refl _) (Szs.refl w) (.inl (by simp [St.nxt])) (fun _ _ _ => rfl) (fun c' hc' => by
    have e : c = c' := by simpa [St.nxt] using hc'
    subst e
    exact hob) (fun _ => ⟨hn'.1, fun b hb => by
    obtain ⟨q1, q2, q3, q4, q5⟩ := hx b (List.mem_append_left _ hb)
    exact ⟨q1, q2, q3, q4, fun o c _ hc => q5 o c hc⟩⟩)
  refine ⟨hone.1, hone.2, hn'.2.1, fun b hb => ?_⟩
  obtain ⟨q1, q2, q3, q4, q5⟩ := hx b (List.mem_append_right _ hb)
  refine ⟨q1, q2, q3, q4, fun o c' hc' => ?_⟩
  by_cases ho : o = t
  · subst ho
    rw [upd_same]
    exact fun hm => hn'.2.2 b hm b hb rfl
  · rw [upd_other _ _ _ ho]
    refine q5 o c' ?_
    unfold St.lay1 at hc'
    rw [St.ob_lay, if_neg ho] at hc'
    exact hc'
theorem lay1_sh (t esz : Nat) (c : Cont) : (s.lay1 t esz c).sh t = ⟨(s.sh t).gen + 1, esz, c.len⟩ := by
  unfold St.lay1
  rw [St.sh_lay, upd_same]
  rfl
theorem nv_in {d : D} {v : Value} {F : List Nat} (hd : d.fr0 = true) (h : RV w S ρ0 H0 d v F) {ρ' : Nat → Pl} {H' : Nat → Sh} : RV w S ρ' H' d v F := fr0_nv hd h

theorem adopt1_ok (h : RepW C s ρ S Φ w) (t : Nat) {d : D} (hd : d.ad1 = true) {v : Value} {F X : List Nat} (hx : Aside C s S Φ w (F ++ X)) (hv : NV w S d v F) :
    ∃ ρ' Φ', RepW C (adopt1 s t d).2 ρ' S Φ' w ∧ (∀ e u, RV w S ρ s.sh e u [] → RV w S ρ' (adopt1 s t d).2.sh e u []) ∧ RV w S ρ' (adopt1 s t d).2.sh (adopt1 s t d).1 v [] ∧ Aside C (adopt1 s t d).2 S Φ' w X := by
  have triv : d.pf = true → adopt1 s t d = (d, s) → ∃ ρ' Φ', RepW C (adopt1 s t d).2 ρ' S Φ' w ∧ (∀ e u, RV w S ρ s.sh e u [] → RV w S ρ' (adopt1 s t d).2.sh e u []) ∧ RV w S ρ' (adopt1 s t d).2.sh (adopt1 s t d).1 v [] ∧ Aside C (adopt1 s t d).2 S Φ' w X := by
    intro hp e
    rw [e]
    obtain ⟨h1, h2⟩ := pf_nv (ρ' := ρ) (H' := s.sh) hp hv
    subst h1
    exact ⟨ρ, Φ, h, fun _ _ h => h, h2, by simpa using hx⟩
  cases d with
  | ownb l =>
    cases hv with
    | ownb _ A n cap F cur off hl hrow hc =>
      obtain ⟨r1, r2, r3⟩ := hrow
      rcases r3 with ⟨r3, r4, r5⟩ | ⟨b, E, fz, r5, rA, rh, rz, rfit⟩
      · subst r5
        obtain ⟨k1, k2, k3⟩ := lay_there h t 1 (.bytes l) hx ⟨0, 0, 0⟩ ⟨rfl, .inl ⟨by show l.length = 0; omega, rfl, rfl⟩⟩
        exact ⟨_, _, k1, k2, .sl _ _ _ _ _ rfl (by show _ ≤ ((s.lay1 t 1 (.bytes l)).sh t).gen; rw [lay1_sh]; exact Nat.le_refl _) (fun _ => ⟨A, cap, by rw [hl], by rw [hl]; exact r1, r2, by show 0 + _ ≤ ((s.lay1 t 1 (.bytes l)).sh t).clen; rw [show (adopt1 s t (.ownb l)).2 = s.lay1 t 1 (.bytes l) from rfl, lay1_sh]; simp [Cont.len], .inl ⟨by omega, r4⟩⟩), k3⟩
      · subst r5
        obtain ⟨k1, k2, k3⟩ := lay_there h t 1 (.bytes l) hx ⟨b, off, cur.size⟩ ⟨rfl, .inr ⟨cur, E, fz, [], rh, rz, rfl, by simp [Cont.len]; omega, rfl, rfl, fun i hi => hc i (by omega)⟩⟩
        subst rA
        subst hl
        exact ⟨_, _, k1, k2, lay_sl t 1 (.bytes l) ⟨b, off, cur.size⟩ l.length cap r1 r2 (by simp [Cont.len]) rfit, k3⟩
  | owns e n cs =>
    cases hv with
    | owns _ _ _ A cap F F0 Fs cur off hl hrow hf hF hr =>
      obtain ⟨r1, r2, r3⟩ := hrow
      rcases r3 with ⟨r3, r4, r5⟩ | ⟨b, E, fz, r5, rA, rh, rz, rfit⟩
      · have hc0 : cs = [] := List.eq_nil_of_length_eq_zero (by rw [hl, r3, Nat.zero_mul])
        subst hc0
        have hFs : Fs = [] := List.eq_nil_of_length_eq_zero hf
        subst hFs
        subst r5
        subst hF
        obtain ⟨k1, k2, k3⟩ := lay_there h t e (.cells []) hx ⟨0, 0, 0⟩ ⟨rfl, .inl ⟨rfl, rfl, rfl⟩⟩
        exact ⟨_, _, k1, k2, .sl _ _ _ _ _ rfl (by show _ ≤ ((s.lay1 t e (.cells [])).sh t).gen; rw [lay1_sh]; exact Nat.le_refl _) (fun _ => ⟨A, cap, rfl, by omega, r2, by rw [r3]; simp, .inl ⟨r3, r4⟩⟩), k3⟩
      · subst r5
        subst hF
        obtain ⟨k1, k2, k3⟩ := lay_there h t e (.cells cs) hx ⟨b, off, cur.size⟩ ⟨rfl, .inr ⟨cur, E, fz, Fs, rh, rz, rfl, by simp only [Cont.len]; have := Nat.mul_le_mul_right e r1; omega, rfl, hf, fun i c u f p1 p2 p3 => nv_in (all_get hd p1) (hr i c u f p1 p2 p3)⟩⟩
        subst rA
        exact ⟨_, _, k1, k2, lay_sl t e (.cells cs) ⟨b, off, cur.size⟩ n cap r1 r2 (by simp [Cont.len, hl]) rfit, k3⟩
  | ownp cs =>
    cases hv with
    | ownp _ b base cur E fz F Fs hh hz hs hf hF hr =>
      subst hF
      obtain ⟨k1, k2, k3⟩ := lay_there h t 1 (.cells cs) hx ⟨b, base, cur.size⟩ ⟨rfl, .inr ⟨cur, E, fz, Fs, hh, hz, rfl, hs, rfl, hf, fun i c u f p1 p2 p3 => nv_in (all_get hd p1) (hr i c u f p1 p2 p3)⟩⟩
      exact ⟨_, _, k1, k2, lay_ptr t 1 (.cells cs) ⟨b, base, cur.size⟩ 0, k3⟩
  | _ => exact triv hd rfl
theorem aside_nil : Aside C s S Φ w [] := ⟨by simp, by simp⟩
theorem adoptL_ok : ∀ (ds : List D) (s : St) (ρ : Nat → Pl) (Φ : Nat → List Nat) (t : Nat) (vs : List Value) (Fs : List (List Nat)) (X : List Nat), RepW C s ρ S Φ w → ds.all D.ad1 = true → vs.length = ds.length → Fs.length = ds.length → Aside C s S Φ w (Fs.flatten ++ X) →
    (∀ (i : Nat) (d : D) (v : Value) (F : List Nat), ds[i]? = some d → vs[i]? = some v → Fs[i]? = some F → NV w S d v F) →
    ∃ ρ' Φ', RepW C (adoptL s t ds).2 ρ' S Φ' w ∧ (∀ e u, RV w S ρ s.sh e u [] → RV w S ρ' (adoptL s t ds).2.sh e u []) ∧ PR w S ρ' (adoptL s t ds).2.sh (adoptL s t ds).1 vs ∧ Aside C (adoptL s t ds).2 S Φ' w X
  | [], s, ρ, Φ, t, vs, Fs, X, h, hd, hv, hf, hx, hr => by
    have : vs = [] := List.eq_nil_of_length_eq_zero hv
    subst this
    have : Fs = [] := List.eq_nil_of_length_eq_zero hf
    subst this
    exact ⟨ρ, Φ, h, fun _ _ h => h, PR.nil, hx⟩
  | d :: ds, s, ρ, Φ, t, vs, Fs, X, h, hd, hv, hf, hx, hr => by
    rcases vs with _ | ⟨v, vs⟩
    · simp at hv
    rcases Fs with _ | ⟨F, Fs⟩
    · simp at hf
    simp only [List.all_cons, Bool.and_eq_true] at hd
    obtain ⟨ρ1, Φ1, k1, k2, k3, k4⟩ := adopt1_ok h t hd.1 (F := F) (X := Fs.flatten ++ X) (by rw [List.flatten_cons, List.append_assoc] at hx; exact hx) (hr 0 d v F rfl rfl rfl)
    obtain ⟨ρ2, Φ2, j1, j2, j3, j4⟩ := adoptL_ok ds (adopt1 s t d).2 ρ1 Φ1 (t + 1000) vs Fs X k1 hd.2 (by simpa using hv) (by simpa using hf) k4 (fun i d v F p1 p2 p3 => hr (i + 1) d v F (by simpa using p1) (by simpa using p2) (by simpa using p3))
    refine ⟨ρ2, Φ2, j1, fun d v h => j2 d v (k2 d v h), ⟨by simp [adoptL, j3.1], fun i c u p1 p2 => ?_⟩, j4⟩
    rcases i with _ | i
    · simp only [adoptL, List.getElem?_cons_zero, Option.some.injEq] at p1 p2
      subst p1; subst p2
      exact j2 _ _ k3
    · exact j3.2 i c u (by simpa [adoptL] using p1) (by simpa using p2)
theorem adoptA_ok (h : RepW C s ρ S Φ w) (t : Nat) {cs : List D} (hd : cs.all D.ad1 = true) {v : Value} {F X : List Nat} (hx : Aside C s S Φ w (F ++ X)) (hv : NV w S (.agg cs) v F) :
    ∃ ρ' Φ', RepW C (adoptL s t cs).2 ρ' S Φ' w ∧ (∀ e u, RV w S ρ s.sh e u [] → RV w S ρ' (adoptL s t cs).2.sh e u []) ∧ RV w S ρ' (adoptL s t cs).2.sh (.agg (adoptL s t cs).1) v [] ∧ Aside C (adoptL s t cs).2 S Φ' w X := by
  cases hv with
  | agg _ vs Fs F hv hf hF hr =>
    subst hF
    obtain ⟨ρ', Φ', k1, k2, k3, k4⟩ := adoptL_ok cs s ρ Φ t vs Fs X h hd hv hf hx hr
    exact ⟨ρ', Φ', k1, k2, RV.agg0 k3.1 k3.2, k4⟩
theorem adT_or (ds : List D) : (∃ cs r, ds = .agg cs :: r) ∨ ((∀ s t, adoptT s t ds = adoptL s t ds) ∧ D.adL ds = ds.all D.ad1) := by
  rcases ds with _ | ⟨d, r⟩
  · exact .inr ⟨fun _ _ => rfl, rfl⟩
  · cases d <;> first | exact .inl ⟨_, _, rfl⟩ | exact .inr ⟨fun _ _ => rfl, rfl⟩
theorem adoptT_ok (h : RepW C s ρ S Φ w) (t : Nat) (ds : List D) (hd : D.adL ds = true) {vs : List Value} {Fs : List (List Nat)} {X : List Nat} (hv : vs.length = ds.length) (hf : Fs.length = ds.length) (hx : Aside C s S Φ w (Fs.flatten ++ X))
    (hr : ∀ (i : Nat) (d : D) (v : Value) (F : List Nat), ds[i]? = some d → vs[i]? = some v → Fs[i]? = some F → NV w S d v F) :
    ∃ ρ' Φ', RepW C (adoptT s t ds).2 ρ' S Φ' w ∧ (∀ e u, RV w S ρ s.sh e u [] → RV w S ρ' (adoptT s t ds).2.sh e u []) ∧ PR w S ρ' (adoptT s t ds).2.sh (adoptT s t ds).1 vs ∧ Aside C (adoptT s t ds).2 S Φ' w X := by
  rcases adT_or ds with ⟨cs, r, rfl⟩ | ⟨e1, e2⟩
  · rcases vs with _ | ⟨v, vs⟩
    · simp at hv
    rcases Fs with _ | ⟨F, Fs⟩
    · simp at hf
    simp only [D.adL, Bool.and_eq_true] at hd
    obtain ⟨ρ1, Φ1, k1, k2, k3, k4⟩ := adoptA_ok h (t + 500) hd.1 (F := F) (X := Fs.flatten ++ X) (by rw [List.flatten_cons, List.append_assoc] at hx; exact hx) (hr 0 _ v F rfl rfl rfl)
    obtain ⟨ρ2, Φ2, j1, j2, j3, j4⟩ := adoptL_ok r (adoptL s (t + 500) cs).2 ρ1 Φ1 (t + 1000) vs Fs X k1 hd.2 (by simpa using hv) (by simpa using hf) k4 (fun i d v F p1 p2 p3 => hr (i + 1) d v F (by simpa using p1) (by simpa using p2) (by simpa using p3))
    refine ⟨ρ2, Φ2, j1, fun d v h => j2 d v (k2 d v h), ⟨by simp [adoptT, j3.1], fun i c u p1 p2 => ?_⟩, j4⟩
    rcases i with _ | i
    · simp only [adoptT, List.getElem?_cons_zero, Option.some.injEq] at p1 p2
      subst p1; subst p2
      exact j2 _ _ k3
    · exact j3.2 i c u (by simpa [adoptT] using p1) (by simpa using p2)
  · rw [e1]
    rw [e2] at hd
    exact adoptL_ok ds s ρ Φ t vs Fs X h hd hv hf hx hr
theorem adopt_ok (h : RepW C s ρ S Φ w) (t : Nat) {d : D} (hd : d.ad = true) {v : Value} {F X : List Nat} (hx : Aside C s S Φ w (F ++ X)) (hv : NV w S d v F) :
    ∃ ρ' Φ', RepW C (adopt s t d).2 ρ' S Φ' w ∧ (∀ e u, RV w S ρ s.sh e u [] → RV w S ρ' (adopt s t d).2.sh e u []) ∧ RV w S ρ' (adopt s t d).2.sh (adopt s t d).1 v [] ∧ Aside C (adopt s t d).2 S Φ' w X := by
  by_cases ht : ∃ ds, d = .tup ds
  · obtain ⟨ds, rfl⟩ := ht
    obtain ⟨vs, Fs, rfl, q1, q2, rfl, q4⟩ := nv_tup hv
    obtain ⟨ρ', Φ', k1, k2, k3, k4⟩ := adoptT_ok h t ds hd q1 q2 hx q4
    exact ⟨ρ', Φ', k1, k2, k3.tup, k4⟩
  · by_cases ha : ∃ cs, d = .agg cs
    · obtain ⟨cs, rfl⟩ := ha
      exact adoptA_ok h (t + 500) hd hx hv
    · obtain ⟨e1, e2⟩ : d.ad = d.ad1 ∧ adopt s t d = adopt1 s t d := by cases d <;> first | exact ⟨rfl, rfl⟩ | exact absurd ⟨_, rfl⟩ ht | exact absurd ⟨_, rfl⟩ ha
      rw [e1] at hd
      rw [e2]
      exact adopt1_ok h t hd hx hv
end
end Go.Proofs.YtabkpoklihkifaaDoor

/- Contracts of functions without names, and the call by one. Over any program. -/
namespace Go.Proofs.YtabkpoklihkifaaDoor
open Go Go.RowKit
set_option linter.unusedVariables false
set_option linter.unusedSimpArgs false

/-- It reads no read-only memory. -/
def D.nr0 : D → Bool
  | .bot | .bool _ | .int _ _ | .u8 _ | .u32 _ | .str _ | .nilP | .nilS | .nilF | .fn _ | .ownb _ => true
  | _ => false
def D.nrO : D → Bool
  | .owns _ _ cs => cs.all D.nr0
  | d => d.nr0
def D.nr1 : D → Bool
  | .aggb _ => true
  | .agg cs => cs.all D.nrO
  | .owns _ _ cs => cs.all D.nr0
  | .ownp cs => cs.all D.nr0
  | d => d.nr0
def D.nr : D → Bool
  | .tup cs => cs.all D.nr1
  | d => d.nr1
section
variable {w : World} {S S' : Nat → Prop} {ρ : Nat → Pl} {H : Nat → Sh}
theorem nr0_S {d : D} (hd : d.nr0 = true) {v : Value} {F : List Nat} (h : RV w S ρ H d v F) : RV w S' ρ H d v F := by
  cases h <;> first | (cases hd; done) | (constructor <;> assumption; done) | constructor
theorem nrO_S {d : D} (hd : d.nrO = true) {v : Value} {F : List Nat} (h : RV w S ρ H d v F) : RV w S' ρ H d v F := by
  by_cases h0 : d.nr0 = true
  · exact nr0_S h0 h
  · cases h with
    | owns s n cs A cap F F0 Fs cur off hl h hf hF hr => exact .owns s n cs A cap F F0 Fs cur off hl h hf hF (fun i c u f h1 h2 h3 => nr0_S (all_get hd h1) (hr i c u f h1 h2 h3))
    | _ => first | exact absurd hd h0 | (cases hd; done)
theorem nr1_S {d : D} (hd : d.nr1 = true) {v : Value} {F : List Nat} (h : RV w S ρ H d v F) : RV w S' ρ H d v F := by
  by_cases h0 : d.nr0 = true
  · exact nr0_S h0 h
  · cases h with
    | aggb l => exact .aggb l
    | owns s n cs A cap F F0 Fs cur off hl h hf hF hr => exact .owns s n cs A cap F F0 Fs cur off hl h hf hF (fun i c u f h1 h2 h3 => nr0_S (all_get hd h1) (hr i c u f h1 h2 h3))
    | ownp cs b base cur E fz F Fs hh hz hs hf hF hr => exact .ownp cs b base cur E fz F Fs hh hz hs hf hF (fun i c u f h1 h2 h3 => nr0_S (all_get hd h1) (hr i c u f h1 h2 h3))
    | agg cs vs Fs F hv hf hF hr => exact .agg cs vs Fs F hv hf hF (fun i c u f h1 h2 h3 => nrO_S (all_get hd h1) (hr i c u f h1 h2 h3))
    | _ => first | exact absurd hd h0 | (cases hd; done)
theorem nr_S {d : D} (hd : d.nr = true) {v : Value} {F : List Nat} (h : RV w S ρ H d v F) : RV w S' ρ H d v F := by
  by_cases h0 : d.nr1 = true
  · exact nr1_S h0 h
  · cases h with
    | tup cs vs Fs F hv hf hF hr => exact .tup cs vs Fs F hv hf hF (fun i c u f h1 h2 h3 => nr1_S (all_get hd h1) (hr i c u f h1 h2 h3))
    | _ => first | exact absurd hd h0 | (cases hd; done)
end

def GlOk (G : Nat → Option D) (w : World) (S : Nat → Prop) : Prop := ∀ g cs, G g = some cs → NV w S cs (.pointer (some ⟨g, 0, none⟩)) []
/-- What a call leaves: a value that reads as res; the receiver (where outs says so) holds outs; all else is as it was. -/
def FCPost (w : World) (S : Nat → Prop) (v0 : Value) (Fin : List Nat) (res : D) (outs : Option (List D)) (e : Ending) (w' : World) : Prop :=
  ∃ v F Fo S', e = .returned v ∧ w'.os = w.os ∧ w'.tape = w.tape ∧ w'.output = w.output ∧ w.heap.size ≤ w'.heap.size ∧ Szs w w' ∧
    (∀ b, b < w.heap.size → b ∉ Fin → w'.heap[b]? = w.heap[b]?) ∧ (∀ b, S b → S' b) ∧ (∀ b, S' b → b < w'.heap.size ∧ (S b ∨ w.heap.size ≤ b ∨ b ∈ Fin)) ∧ SOk w' S' ∧
    NV w' S' res v F ∧ (match outs with | none => Fo = [] | some cs => NV w' S' (.ownp cs) v0 Fo) ∧ (F ++ Fo).Nodup ∧ ∀ b ∈ F ++ Fo, ¬ S' b ∧ b < w'.heap.size ∧ (w.heap.size ≤ b ∨ b ∈ Fin)
/-- THE CONTRACT of a function: called with what reads as ins it answers what reads as res. -/
def FC (P : Program) (G : Nat → Option D) (f : Nat) (ins : List D) (res : D) (outs : Option (List D)) : Prop :=
  ∀ (w : World) (S : Nat → Prop) (vs : List Value) (Fs : List (List Nat)), SOk w S → GlOk G w S → vs.length = ins.length → Fs.length = ins.length →
    (∀ (i : Nat) (d : D) (v : Value) (F : List Nat), ins[i]? = some d → vs[i]? = some v → Fs[i]? = some F → NV w S d v F) → Fs.flatten.Nodup → (∀ b ∈ Fs.flatten, ¬ S b ∧ b < w.heap.size) →
    Calls P f vs.toArray w (FCPost w S (vs.getD 0 undef) Fs.flatten res outs)

/-- The state behind a call, before its answer is taken in. -/
def outS (s : St) (outs : Option (List D)) (own : List Nat) : St :=
  match outs, own with
  | some cs, [o] => s.lay o ⟨s.sh o, some (.cells cs)⟩
  | _, _ => s

section
variable {C : Ctx} {s s' : St} {ρ : Nat → Pl} {S S' : Nat → Prop} {Φ : Nat → List Nat} {w w' : World}
theorem RepW.congr (h : RepW C s ρ S Φ w) (e : ∀ o, s'.ob o = s.ob o) (ed : s'.dk = s.dk) : RepW C s' ρ S Φ w := by
  have es : s'.sh = s.sh := by funext o; unfold St.sh; rw [e]
  exact ⟨h.os, h.tape, h.output, h.size, h.szs, h.fr, h.s0, h.s1, h.sc, by rw [es]; exact h.gl, fun o c hc => by rw [es]; exact h.ob o c (by rw [← e]; exact hc), by rw [es]; exact h.rv, by rw [ed]; exact h.dk, by rw [ed]; exact h.dkn, fun o c hc => by rw [ed]; exact h.own o c (by rw [← e]; exact hc),
    fun o o' c c' hc hc' => h.dis o o' c c' (by rw [← e]; exact hc) (by rw [← e]; exact hc')⟩
/-- More blocks are read only from now on. -/
theorem RepW.grow (h : RepW C s ρ S Φ w) (h1 : ∀ b, S b → S' b) (h2 : ∀ b, S' b → b < w.heap.size ∧ (C.S0 b ∨ C.w0.heap.size ≤ b ∨ b ∈ C.M)) (h3 : ∀ o c, (s.ob o).ct = some c → ∀ b ∈ Φ o, ¬ S' b) (h4 : ∀ r ∈ s.dk, ¬ S' r) (h5 : SOk w S') :
    RepW C s ρ S' Φ w ∧ ∀ d v, RV w S ρ s.sh d v [] → RV w S' ρ s.sh d v [] := by
  have hm : ∀ {d v F}, RV w S ρ s.sh d v F → RV w S' ρ s.sh d v F := fun hr => hr.mono h1 (fun _ _ => rfl) (fun _ => ⟨Nat.le_refl _, fun _ => ⟨rfl, rfl⟩⟩) (fun _ _ => rfl)
  exact ⟨⟨h.os, h.tape, h.output, h.size, h.szs, h.fr, fun b hb => h1 b (h.s0 b hb), h2, h5, fun g cs hg => hm (h.gl g cs hg),
    fun o c hc => (h.ob o c hc).mono h1 (fun _ _ => rfl) (fun _ => ⟨Nat.le_refl _, fun _ => ⟨rfl, rfl⟩⟩) (fun _ _ => rfl), fun d v hv => hm (h.rv d v hv), h.dk, ⟨h.dkn.1, fun r hr => ⟨(h.dkn.2 r hr).1, h4 r hr⟩⟩,
    fun o c hc => ⟨(h.own o c hc).1, fun b hb => ⟨h3 o c hc b hb, ((h.own o c hc).2 b hb).2⟩⟩, h.dis⟩, fun d v hr => hm hr⟩
/-- The world goes on, all that was there as it was. -/
theorem RepW.ext (h : RepW C s ρ S Φ w) (hos : w'.os = w.os) (htape : w'.tape = w.tape) (hout : w'.output = w.output) (hsz : w.heap.size ≤ w'.heap.size) (hw : ∀ b, b < w.heap.size → w'.heap[b]? = w.heap[b]?) :
    RepW C s ρ S Φ w' ∧ ∀ d v, RV w S ρ s.sh d v [] → RV w' S ρ s.sh d v [] := by
  have hwS : ∀ b, S b → w'.heap[b]? = w.heap[b]? := fun b hb => hw b (h.s1 b hb).1
  have hm : ∀ {d v}, RV w S ρ s.sh d v [] → RV w' S ρ s.sh d v [] := fun hr => hr.mono (fun _ h => h) hwS (fun _ => ⟨Nat.le_refl _, fun _ => ⟨rfl, rfl⟩⟩) (by simp)
  exact ⟨⟨hos.trans h.os, htape.trans h.tape, hout.trans h.output, Nat.le_trans h.size hsz, h.szs.trans (Szs.same hw), fun b hb hM => (hw b (Nat.lt_of_lt_of_le hb h.size)).trans (h.fr b hb hM), h.s0, fun b hb => ⟨Nat.lt_of_lt_of_le (h.s1 b hb).1 hsz, (h.s1 b hb).2⟩, h.sc.same hwS, fun g cs hg => hm (h.gl g cs hg),
    fun o c hc => (h.ob o c hc).mono (fun _ h => h) hwS (fun _ => ⟨Nat.le_refl _, fun _ => ⟨rfl, rfl⟩⟩) (fun b hb => hw b ((h.own o c hc).2 b hb).2.1), fun d v hv => hm (h.rv d v hv), fun r hr => (hw r (Array.getElem?_eq_some_iff.1 (h.dk r hr)).1).trans (h.dk r hr), h.dkn,
    fun o c hc => ⟨(h.own o c hc).1, fun b hb => ⟨((h.own o c hc).2 b hb).1, Nat.lt_of_lt_of_le ((h.own o c hc).2 b hb).2.1 hsz, ((h.own o c hc).2 b hb).2.2⟩⟩, h.dis⟩, fun d v hr => hm hr⟩
/-- A block that is read only while a call runs. -/
def Lent (s : St) (ρ : Nat → Pl) (S : Nat → Prop) (Φ : Nat → List Nat) (fro : List Nat) (b : Nat) : Prop := S b ∨ ∃ o ∈ fro, (s.ob o).ct.isSome = true ∧ b ∈ Φ o ∧ b = (ρ o).blk
theorem lent_ok (h : RepW C s ρ S Φ w) (fro : List Nat) : ∀ o ∈ fro, ∀ c, (s.ob o).ct = some c → 0 < c.len → Lent s ρ S Φ fro (ρ o).blk := by
  intro o ho c hc hl
  obtain ⟨_, h2⟩ := h.ob o c hc
  rcases h2 with ⟨h1, _⟩ | ⟨cur, E, fz, Fs, hh, hz, hs, hb, hF, hct⟩
  · omega
  · exact .inr ⟨o, ho, by rw [hc]; rfl, by rw [hF]; simp, rfl⟩
theorem lent_lt (h : RepW C s ρ S Φ w) {fro : List Nat} {b : Nat} (hb : Lent s ρ S Φ fro b) : b < w.heap.size ∧ (C.S0 b ∨ C.w0.heap.size ≤ b ∨ b ∈ C.M) := by
  rcases hb with hb | ⟨o, ho, hl, hb, _⟩
  · exact h.s1 b hb
  · obtain ⟨c, hc⟩ := Option.isSome_iff_exists.1 hl
    have := (h.own o c hc).2 b hb
    exact ⟨this.2.1, .inr this.2.2.1⟩
theorem lent_c (h : RepW C s ρ S Φ w) (fro : List Nat) : SOk w (Lent s ρ S Φ fro) := by
  rintro b (hb | ⟨o, ho, hl, hb, rfl⟩)
  · exact h.sc b hb
  · obtain ⟨c, hc⟩ := Option.isSome_iff_exists.1 hl
    obtain ⟨_, h2⟩ := h.ob o c hc
    rcases h2 with ⟨_, h1, _⟩ | ⟨cur, E, fz, Fs, hh, _⟩
    · rw [h1] at hb; cases hb
    · exact ⟨cur, E, fz, hh⟩
theorem lent_own (h : RepW C s ρ S Φ w) {own fro : List Nat} (hd : ∀ o ∈ own, o ∉ fro) {b o : Nat} (ho : o ∈ own) (hl : (s.ob o).ct.isSome = true) (hb : b ∈ Φ o) : ¬ Lent s ρ S Φ fro b := by
  obtain ⟨c, hc⟩ := Option.isSome_iff_exists.1 hl
  rintro (h1 | ⟨o', ho', hl', hb', _⟩)
  · exact ((h.own o c hc).2 b hb).1 h1
  · obtain ⟨c', hc'⟩ := Option.isSome_iff_exists.1 hl'
    exact h.dis o o' c c' hc hc' (fun e => hd o ho (e ▸ ho')) b hb hb'

/-- THE CALL by a contract. -/
theorem call_ok (h : RepW C s ρ S Φ w) {f : Nat} {ins : List D} {res : D} {outs : Option (List D)} (fc : FC C.P C.G f ins res outs) {ds : List D} {vs : List Value} (hp : PR w S ρ s.sh ds vs) {own fro : List Nat} (hm : Mat s (.tup ds) (.tup ins) own fro) (hnd : own.Nodup) (hdis : ∀ o ∈ own, o ∉ fro)
    (hnr : fro = [] ∨ (res.nr = true ∧ ∀ cs, outs = some cs → cs.all D.nr0 = true)) (had : res.ad = true)
    (hout : match outs with | none => own = [] | some cs => ∃ o g ds', own = [o] ∧ ds = .ptr o g 0 :: ds' ∧ g = (s.sh o).gen ∧ (s.ob o).ct.isSome = true ∧ cs.all D.fr0 = true ∧ 0 < cs.length ∧ (s.sh o).clen = cs.length) (t : Nat) :
    Calls C.P f vs.toArray w fun e w' => ∃ v ρ' S' Φ', e = .returned v ∧ RepW C (adopt (outS s outs own) t res).2 ρ' S' Φ' w' ∧ (∀ d v, RV w S ρ s.sh d v [] → RV w' S' ρ' (adopt (outS s outs own) t res).2.sh d v []) ∧ RV w' S' ρ' (adopt (outS s outs own) t res).2.sh (adopt (outS s outs own) t res).1 v [] := by
  obtain ⟨F, k1, k2, k3⟩ := hm.sound h (S' := Lent s ρ S Φ fro) (fun b hb => .inl hb) (lent_ok h fro) hnd hp.tup
  obtain ⟨vs', Fs, e', q1, q2, q3, q4⟩ := nv_tup k1
  obtain rfl := tuple_inj e'
  subst q3
  have hgl : GlOk C.G w (Lent s ρ S Φ fro) := fun g cs hg => nv_S (fun b hb => .inl hb) (pf0_nv (C.gp g cs hg) (h.gl g cs hg)).2
  refine (fc w (Lent s ρ S Φ fro) vs Fs (lent_c h fro) hgl q1 q2 q4 k2 (fun b hb => ?_)).mono ?_
  · obtain ⟨o, ho, hl, hbo⟩ := k3 b hb
    obtain ⟨c, hc⟩ := Option.isSome_iff_exists.1 hl
    exact ⟨lent_own h hdis ho hl hbo, ((h.own o c hc).2 b hbo).2.1⟩
  rintro e w' ⟨v, F, Fo, S', rfl, hos, htape, hoo, hsz, hszs, hfr, hS1, hS2, hSc, hres, hou, hnd2, hF⟩
  -- the read-only blocks from now on
  obtain ⟨Sn, p1, p2, p3, p4⟩ : ∃ Sn : Nat → Prop, (∀ b, S b → Sn b) ∧ (∀ b, Sn b → S' b ∧ (S b ∨ w.heap.size ≤ b ∨ b ∈ Fs.flatten)) ∧ NV w' Sn res v F ∧ (∀ cs, outs = some cs → NV w' Sn (.ownp cs) (vs.getD 0 undef) Fo) := by
    rcases hnr with rfl | ⟨n1, n2⟩
    · refine ⟨S', fun b hb => hS1 b (.inl hb), fun b hb => ⟨hb, ?_⟩, hres, fun cs hc => by subst hc; exact hou⟩
      rcases (hS2 b hb).2 with (h1 | ⟨o, ho, _⟩) | h1
      · exact .inl h1
      · cases ho
      · exact .inr h1
    · refine ⟨S, fun _ h => h, fun b hb => ⟨hS1 b (.inl hb), .inl hb⟩, nr_S n1 hres, fun cs hc => ?_⟩
      subst hc
      exact nr1_S (show (D.ownp cs).nr1 = true from n2 cs rfl) hou
  have hgot : ∀ b ∈ Fs.flatten, ∃ o ∈ own, (s.ob o).ct.isSome = true ∧ b ∈ Φ o := k3
  -- the world goes on
  have key : ∃ s1 ρ1 Φ1, (∀ o, (outS s outs own).ob o = s1.ob o) ∧ (outS s outs own).dk = s1.dk ∧ RepW C s1 ρ1 Sn Φ1 w' ∧ (∀ d v, RV w S ρ s.sh d v [] → RV w' Sn ρ1 s1.sh d v []) ∧ Aside C s1 Sn Φ1 w' (F ++ []) := by
    rcases outs with _ | cs
    · subst hout
      have hF0 : Fs.flatten = [] := List.eq_nil_iff_forall_not_mem.2 fun b hb => by obtain ⟨o, ho, _⟩ := hgot b hb; cases ho
      rw [hF0] at hfr p2 hF
      obtain ⟨r1, r2⟩ := h.ext hos htape hoo hsz (fun b hb => hfr b hb (by simp))
      have hnoS : ∀ o c, (s.ob o).ct = some c → ∀ b ∈ Φ o, ¬ Sn b := fun o c hc b hb hSn => by
        rcases (p2 b hSn).2 with h1 | h1 | h1
        · exact ((h.own o c hc).2 b hb).1 h1
        · have := ((h.own o c hc).2 b hb).2.1; omega
        · cases h1
      obtain ⟨t1, t2⟩ := r1.grow p1 (fun b hb => ⟨(hS2 b (p2 b hb).1).1, by
        rcases (p2 b hb).2 with h1 | h1 | h1
        · exact (h.s1 b h1).2
        · exact .inr (.inl (Nat.le_trans h.size h1))
        · cases h1⟩) hnoS (fun r hr hSn => by
        rcases (p2 r hSn).2 with h1 | h1 | h1
        · exact (h.dkn.2 r hr).2 h1
        · have := (Array.getElem?_eq_some_iff.1 (h.dk r hr)).1; omega
        · cases h1) (fun b hb => hSc b (p2 b hb).1)
      have hFo : Fo = [] := hou
      subst hFo
      rw [List.append_nil] at hnd2 hF
      refine ⟨s, ρ, Φ, fun _ => rfl, rfl, t1, fun d v hr => t2 d v (r2 d v hr), by simpa using hnd2, fun b hb => ?_⟩
      obtain ⟨f1, f2, f3⟩ := hF b (by simpa using hb)
      have hge : w.heap.size ≤ b := by
        rcases f3 with f3 | f3
        · exact f3
        · cases f3
      refine ⟨fun hb' => f1 (p2 b hb').1, f2, .inl (Nat.le_trans h.size hge), fun e => by have := (Array.getElem?_eq_some_iff.1 (h.dk b e)).1; omega, fun o c hc hm => ?_⟩
      have := ((h.own o c hc).2 b hm).2.1
      omega
    · obtain ⟨o, g, ds', rfl, rfl, rfl, hlive, hcf, hc0, hclen⟩ := hout
      obtain ⟨c, hc⟩ := Option.isSome_iff_exists.1 hlive
      have hsub : ∀ b ∈ Fs.flatten, b ∈ Φ o := fun b hb => by
        obtain ⟨o', ho', _, hb'⟩ := hgot b hb
        obtain rfl : o' = o := by simpa using ho'
        exact hb'
      have hown := h.own o c hc
      -- (1) the receiver is given up
      obtain ⟨a1, a2⟩ := h.one (w' := w') o ⟨s.sh o, none⟩ (ρ o) [] hos htape hoo hsz hszs (.inr ⟨rfl, rfl⟩) (fun b hb hn => hfr b hb (fun hm => hn hlive (hsub b hm))) (fun c' hc' => by cases hc') (fun hh => by cases hh)
      rw [upd_self] at a1 a2
      have hob1 : ∀ x c', ((s.lay o ⟨s.sh o, none⟩).ob x).ct = some c' → x ≠ o ∧ (s.ob x).ct = some c' := fun x c' hx => by
        rw [St.ob_lay] at hx
        split at hx
        · cases hx
        · exact ⟨by assumption, hx⟩
      have hsh1 : (s.lay o ⟨s.sh o, none⟩).sh = s.sh := by rw [St.sh_lay]; exact upd_self s.sh o
      have hother : ∀ x c', x ≠ o → (s.ob x).ct = some c' → ∀ b ∈ Φ x, ¬ Sn b := fun x c' hx hc' b hb hSn => by
        rcases (p2 b hSn).2 with h1 | h1 | h1
        · exact ((h.own x c' hc').2 b hb).1 h1
        · have := ((h.own x c' hc').2 b hb).2.1; omega
        · exact h.dis x o c' c hc' hc hx b hb (hsub b h1)
      -- (2) more is read only
      obtain ⟨b1, b2⟩ := a1.grow p1 (fun b hb => ⟨(hS2 b (p2 b hb).1).1, by
        rcases (p2 b hb).2 with h1 | h1 | h1
        · exact (h.s1 b h1).2
        · exact .inr (.inl (Nat.le_trans h.size h1))
        · exact .inr (hown.2 b (hsub b h1)).2.2.1⟩) (fun x c' hx b hb => by
        obtain ⟨hne, hx'⟩ := hob1 x c' hx
        rw [upd_other _ _ _ hne] at hb
        exact hother x c' hne hx' b hb) (fun r hr hSn => by
        rcases (p2 r hSn).2 with h1 | h1 | h1
        · exact (h.dkn.2 r hr).2 h1
        · have := (Array.getElem?_eq_some_iff.1 (h.dk r hr)).1; omega
        · exact (hown.2 r (hsub r h1)).2.2.2 hr) (fun b hb => hSc b (p2 b hb).1)
      -- (3) the receiver is taken back
      have hv0 : vs.getD 0 undef = .pointer (some ⟨(ρ o).blk, (ρ o).base + 0, none⟩) := by
        rcases vs with _ | ⟨v0, vs⟩
        · have := hp.1; simp at this
        · exact inv_ptr (hp.2 0 _ v0 rfl rfl) rfl
      have hnv := p4 cs rfl
      rw [hv0] at hnv
      obtain ⟨hcl0, hcase⟩ := h.ob o c hc
      rcases hcase with ⟨z1, _⟩ | ⟨cur, E, fz, Fs0, hh, hz, hs, hbz, hF0, hct⟩
      · omega
      · obtain ⟨cur', E', fz', hh', hsz'⟩ := hszs _ _ _ _ hh
        have hadd : ∀ b ∈ F ++ Fo, ¬ Sn b ∧ b < w'.heap.size ∧ (C.w0.heap.size ≤ b ∨ b ∈ C.M) ∧ b ∉ s.dk ∧ ∀ x c', x ≠ o → (s.ob x).ct = some c' → b ∉ Φ x := fun b hb => by
          obtain ⟨f1, f2, f3⟩ := hF b hb
          refine ⟨fun hb' => f1 (p2 b hb').1, f2, ?_, ?_, fun x c' hx hc' hm => ?_⟩
          · rcases f3 with f3 | f3
            · exact .inl (Nat.le_trans h.size f3)
            · exact (hown.2 b (hsub b f3)).2.2.1
          · rcases f3 with f3 | f3
            · intro e; have := (Array.getElem?_eq_some_iff.1 (h.dk b e)).1; omega
            · exact (hown.2 b (hsub b f3)).2.2.2
          · rcases f3 with f3 | f3
            · have := ((h.own x c' hc').2 b hm).2.1; omega
            · exact h.dis x o c' c hc' hc hx b hm (hsub b f3)
        have hnd3 := List.nodup_append.1 hnd2
        cases hnv with
        | ownp _ bb base cur2 E2 fz2 F2 Fs2 hh2 hz2 hs2 hf2 hF2 hr2 =>
          rw [Nat.add_zero] at *
          rw [hh'] at hh2
          injection hh2 with hh2
          injection hh2 with e1 e2 e3
          subst e1; subst e3
          obtain ⟨d1, d2⟩ := b1.one (w' := w') o ⟨s.sh o, some (.cells cs)⟩ (ρ o) Fo rfl rfl rfl (Nat.le_refl _) (Szs.refl _) (.inr ⟨by rw [hsh1], rfl⟩) (fun _ _ _ => rfl) (fun c' hc' => by
            have e : Cont.cells cs = c' := by simpa using hc'
            subst e
            refine ⟨hclen, .inr ⟨cur', E', _, Fs2, hh', hz2, by rw [hsz']; exact hs, by rw [← hs, ← hsz']; exact hs2, hF2, hf2, fun i c u f m1 m2 m3 => nv_in (all_get hcf m1) (hr2 i c u f m1 m2 m3)⟩⟩) (fun _ => ⟨hnd3.2.1, fun b hb => by
            obtain ⟨g1, g2, g3, g4, g5⟩ := hadd b (List.mem_append_right _ hb)
            refine ⟨g1, g2, g3, g4, fun x c' hx hc' => ?_⟩
            obtain ⟨_, hc''⟩ := hob1 x c' hc'
            rw [upd_other _ _ _ hx]
            exact g5 x c' hx hc''⟩)
          refine ⟨(s.lay o ⟨s.sh o, none⟩).lay o ⟨s.sh o, some (.cells cs)⟩, _, _, fun x => ?_, rfl, d1, fun d v hr => d2 d v (b2 d v (a2 d v hr)), by simpa using hnd3.1, fun b hb => ?_⟩
          · show (s.lay o ⟨s.sh o, some (.cells cs)⟩).ob x = _
            rw [St.ob_lay, St.ob_lay, St.ob_lay]
            split <;> rfl
          · rw [List.append_nil] at hb
            obtain ⟨g1, g2, g3, g4, g5⟩ := hadd b (List.mem_append_left _ hb)
            refine ⟨g1, g2, g3, g4, fun x c' hc' => ?_⟩
            by_cases hx : x = o
            · subst hx
              rw [upd_same]
              exact fun hm => hnd3.2.2 b hb b hm rfl
            · rw [upd_other _ _ _ hx, upd_other _ _ _ hx]
              rw [St.ob_lay, if_neg hx] at hc'
              exact g5 x c' hx (hob1 x c' hc').2
  obtain ⟨s1, ρ1, Φ1, e1, ed, e2, e3, e4⟩ := key
  have es : (outS s outs own).sh = s1.sh := by funext o; unfold St.sh; rw [e1]
  have e2' := e2.congr e1 ed
  obtain ⟨ρ2, Φ2, g1, g2, g3, _⟩ := adopt_ok e2' t had (F := F) (X := []) (v := v) (by
    refine ⟨e4.1, fun b hb => ?_⟩
    obtain ⟨i1, i2, i3, i4, i5⟩ := e4.2 b hb
    exact ⟨i1, i2, i3, by rw [ed]; exact i4, fun o c hc => i5 o c (by rw [← e1]; exact hc)⟩) p3
  exact ⟨v, ρ2, Sn, Φ2, rfl, g1, fun d u hr => g2 d u (by rw [es]; exact e3 d u hr), g3⟩
end
end Go.Proofs.YtabkpoklihkifaaDoor

/- One operation of a region, in the abstract state: what it yields, which objects it lays, on what that hangs. Over any program. -/
namespace Go.Proofs.YtabkpoklihkifaaDoor
open Go Go.RowKit
set_option linter.unusedVariables false
set_option linter.unusedSimpArgs false

/-- What an operand reads as. -/
def ev (C : Ctx) (s : St) : Operand → D
  | .tmp t => s.slot t
  | .const v => ofVal v
  | .global g => match C.G g with | some cs => cs | none => .bot
  | .func f => .fn f
def St.lays (s : St) : List (Nat × Ob) → St
  | [] => s
  | (o, ob) :: r => (s.lay o ob).lays r
def dstOk (n : Nat) (t : Option Nat) : Prop := ∀ x, t = some x → x < n
theorem dstOk_some {n t : Nat} (h : t < n) : dstOk n (some t) := fun x e => by injection e with e; omega
theorem dstOk_none {n : Nat} : dstOk n none := fun x e => by cases e
/-- The slots that an operand looks at. -/
def opT : Operand → List Nat
  | .tmp t => [t]
  | _ => []

/-- THE EFFECT: wherever the slots T and the objects R are as in s, the operation yields d and lays obs. -/
def Eff (C : Ctx) (o : Oper) (s : St) (d : D) (obs : List (Nat × Ob)) (T R : List Nat) : Prop :=
  ∀ σ : St, (∀ t ∈ T, σ.slot t = s.slot t) → (∀ x ∈ R, σ.ob x = s.ob x) → ∀ (K : Act → World → Prop) (Q : Exit → Act → World → Prop) (a : Act) (w : World), Rep C σ a w →
    (∀ a' w', Rep C ((σ.lays obs).puto o.dst d) a' w' → K a' w') → o.wp C.P a w K Q

section
variable {C : Ctx} {s σ : St} {a : Act} {w : World}
theorem ev_ok (h : Rep C s a w) (x : Operand) : ∃ ρ S Φ, RepW C s ρ S Φ w ∧ (∀ t, RV w S ρ s.sh (s.slot t) (a.tmps.getD t undef) []) ∧ RV w S ρ s.sh (ev C s x) (a.eval x) [] := by
  obtain ⟨_, _, ρ, S, Φ, h1, h2⟩ := h
  refine ⟨ρ, S, Φ, h1, h2, ?_⟩
  cases x with
  | tmp t => exact h2 t
  | const v => exact ofVal_ok v
  | global g =>
    show RV w S ρ s.sh (match C.G g with | some cs => cs | none => .bot) (.pointer (some ⟨g, 0, none⟩)) []
    rcases hg : C.G g with _ | cs
    · exact .bot _
    · exact h1.gl g cs hg
  | func f => exact .fn f
theorem ev_rv {ρ : Nat → Pl} {S : Nat → Prop} {Φ : Nat → List Nat} (h1 : RepW C s ρ S Φ w) (h2 : ∀ t, RV w S ρ s.sh (s.slot t) (a.tmps.getD t undef) []) (x : Operand) : RV w S ρ s.sh (ev C s x) (a.eval x) [] := by
  cases x with
  | tmp t => exact h2 t
  | const v => exact ofVal_ok v
  | global g =>
    show RV w S ρ s.sh (match C.G g with | some cs => cs | none => .bot) (.pointer (some ⟨g, 0, none⟩)) []
    rcases hg : C.G g with _ | cs
    · exact .bot _
    · exact h1.gl g cs hg
  | func f => exact .fn f
theorem ev_same {x : Operand} (hT : ∀ t ∈ opT x, σ.slot t = s.slot t) : ev C σ x = ev C s x := by
  cases x with
  | tmp t => exact hT t (by simp [opT])
  | _ => rfl
theorem wp_value {P : Program} {o : Oper} {K : Act → World → Prop} {Q : Exit → Act → World → Prop} {v : Value} {w' : World} (h : (execOp a.eval o).run P w = .ok (.value v) w') (hk : K (a.put o.dst v) w') : o.wp P a w K Q := by
  unfold Oper.wp
  rw [h]
  exact hk
theorem wp_skip_ {P : Program} {o : Oper} {K : Act → World → Prop} {Q : Exit → Act → World → Prop} {w' : World} (h : (execOp a.eval o).run P w = .ok .skip w') (hk : K (a.put o.dst undef) w') : o.wp P a w K Q := by
  unfold Oper.wp
  rw [h]
  exact hk

/-- An operation that only yields a value. -/
theorem eff_pure {o : Oper} {d : D} {T R : List Nat} (hd : dstOk C.n o.dst)
    (h : ∀ σ : St, (∀ t ∈ T, σ.slot t = s.slot t) → (∀ x ∈ R, σ.ob x = s.ob x) → ∀ (a : Act) (w : World) ρ S Φ, RepW C σ ρ S Φ w → (∀ t, RV w S ρ σ.sh (σ.slot t) (a.tmps.getD t undef) []) → ∃ v, (execOp a.eval o).run C.P w = .ok (.value v) w ∧ RV w S ρ σ.sh d v []) :
    Eff C o s d [] T R := by
  intro σ hT hR K Q a w hrep hK
  obtain ⟨h1, h2, ρ, S, Φ, h3, h4⟩ := hrep
  obtain ⟨v, hr, hv⟩ := h σ hT hR a w ρ S Φ h3 h4
  exact wp_value hr (hK _ _ (rep_put h1 h2 h3 h4 o.dst hd d v hv))
/-- An operation that lays an object. -/
theorem eff_lay {o : Oper} {d : D} {T R : List Nat} {ob : Nat} {b : Ob} (hd : dstOk C.n o.dst)
    (h : ∀ σ : St, (∀ t ∈ T, σ.slot t = s.slot t) → (∀ x ∈ R, σ.ob x = s.ob x) → ∀ (a : Act) (w : World) ρ S Φ, RepW C σ ρ S Φ w → (∀ t, RV w S ρ σ.sh (σ.slot t) (a.tmps.getD t undef) []) → ∃ r, (execOp a.eval o).run C.P w = r.andThen (fun v w => .ok (.value v) w) ∧ Outc C σ S ρ w r (σ.lay ob b) d) :
    Eff C o s d [(ob, b)] T R := by
  intro σ hT hR K Q a w hrep hK
  obtain ⟨h1, h2, ρ, S, Φ, h3, h4⟩ := hrep
  obtain ⟨r, hr, v, w', ρ', Φ', rfl, k1, k2, k3⟩ := h σ hT hR a w ρ S Φ h3 h4
  exact wp_value hr (hK _ _ (rep_put (s' := σ.lay ob b) h1 h2 k1 (fun t => k2 _ _ (h4 t)) o.dst hd d v k3))

/-! The functions of objects look at no more than they name. -/
theorem byt_loc {O O' : Nat → Ob} {x : D} {g : Prop} {l : List UInt8} {R : List Nat} (e : byt O x = some (g, l, R)) (h : ∀ o ∈ R, O' o = O o) : byt O' x = some (g, l, R) := by
  unfold byt at *
  split at e
  · exact e
  · exact e
  · rename_i o g' off len
    have hR : R = [o] := by split at e <;> first | (injection e with e; injection e with e1 e2; injection e2 with e2 e3; exact e3.symm) | cases e
    subst hR
    rw [h o (by simp)]
    exact e
  · cases e
theorem ldD_loc {P : Program} {O O' : Nat → Ob} {t : TypeId} {x : D} {g : Prop} {d : D} {R : List Nat} (e : ldD (tiOf P) O t x = some (g, d, R)) (h : ∀ o ∈ R, O' o = O o) : ldD (tiOf P) O' t x = some (g, d, R) := by
  unfold ldD at *
  split at e
  · rename_i o g' off
    have hR : R = [o] := by
      split at e
      · split at e
        · injection e with e; injection e with e1 e2; injection e2 with e2 e3; exact e3.symm
        · split at e
          · injection e with e; injection e with e1 e2; injection e2 with e2 e3; exact e3.symm
          · cases e
      · split at e
        · injection e with e; injection e with e1 e2; injection e2 with e2 e3; exact e3.symm
        · split at e
          · injection e with e; injection e with e1 e2; injection e2 with e2 e3; exact e3.symm
          · cases e
      · cases e
    subst hR
    rw [h o (by simp)]
    exact e
  · exact e
  · exact e
  · exact e
  · cases e
theorem ixaI_loc {P : Program} {O O' : Nat → Ob} {t : TypeId} {x y : D} {g : Prop} {d : D} {R : List Nat} (e : ixaI (tiOf P) O t x y = some (g, d, R)) (h : ∀ o ∈ R, O' o = O o) : ixaI (tiOf P) O' t x y = some (g, d, R) := by
  unfold ixaI at *
  split at e
  · split at e <;> first
      | exact e
      | (injection e with e; injection e with e1 e2; injection e2 with e2 e3; subst e3; simp only [h _ (List.mem_singleton.2 rfl)]; rw [← e1, ← e2])
      | cases e
  · cases e
theorem ixaD_loc {P : Program} {O O' : Nat → Ob} {t : TypeId} {x y : D} {g : Prop} {d : D} {R : List Nat} (e : ixaD (tiOf P) O t x y = some (g, d, R)) (h : ∀ o ∈ R, O' o = O o) : ixaD (tiOf P) O' t x y = some (g, d, R) := ixaI_loc e h
theorem fdaD_loc {P : Program} {O O' : Nat → Ob} {t : TypeId} {x : D} {f : Nat} {g : Prop} {d : D} {R : List Nat} (e : fdaD (tiOf P) O t x f = some (g, d, R)) (h : ∀ o ∈ R, O' o = O o) : fdaD (tiOf P) O' t x f = some (g, d, R) := by
  unfold fdaD at *
  split at e
  · split at e
    · split at e <;> first
        | exact e
        | (injection e with e; injection e with e1 e2; injection e2 with e2 e3; subst e3; simp only [h _ (List.mem_singleton.2 rfl)]; rw [← e1, ← e2])
        | cases e
    · cases e
  · cases e
theorem slcD_loc {P : Program} {O O' : Nat → Ob} {t : TypeId} {x : D} {lo hi : Option D} {g : Prop} {d : D} {R : List Nat} (e : slcD (tiOf P) O t x lo hi = some (g, d, R)) (h : ∀ o ∈ R, O' o = O o) : slcD (tiOf P) O' t x lo hi = some (g, d, R) := by
  unfold slcD at *
  split at e
  · split at e <;> first
      | exact e
      | (injection e with e; injection e with e1 e2; injection e2 with e2 e3; subst e3; simp only [h _ (List.mem_singleton.2 rfl)]; rw [← e1, ← e2])
      | cases e
  · cases e
theorem lenD_loc {P : Program} {O O' : Nat → Ob} {t : TypeId} {x : D} {g : Prop} {d : D} {R : List Nat} (e : lenD (tiOf P) O t x = some (g, d, R)) (h : ∀ o ∈ R, O' o = O o) : lenD (tiOf P) O' t x = some (g, d, R) := by
  unfold lenD at *
  split at e <;> first
      | exact e
      | (injection e with e; injection e with e1 e2; injection e2 with e2 e3; subst e3; simp only [h _ (List.mem_singleton.2 rfl)]; rw [← e1, ← e2])
      | cases e
theorem apD_loc {P : Program} {O O' : Nat → Ob} {t : TypeId} {x : D} {g : Prop} {d : D} {R : List Nat} (e : apD (tiOf P) O t x = some (g, d, R)) (h : ∀ o ∈ R, O' o = O o) : apD (tiOf P) O' t x = some (g, d, R) := by
  unfold apD at *
  split at e <;> first
      | exact e
      | (injection e with e; injection e with e1 e2; injection e2 with e2 e3; subst e3; simp only [h _ (List.mem_singleton.2 rfl)]; rw [← e1, ← e2])
      | cases e
end
end Go.Proofs.YtabkpoklihkifaaDoor

/- The effects of the operations that read or reckon, and of those that lay or write. Over any program. -/
namespace Go.Proofs.YtabkpoklihkifaaDoor
open Go Go.RowKit
set_option linter.unusedVariables false
set_option linter.unusedSimpArgs false

section
variable {C : Ctx} {s : St} {dst : Option Tmp} {ty : TypeId} {pos : String} {after : Array Edge} {gd : Option (Nat × Bool)}
theorem eff_move (x : Operand) (hd : dstOk C.n dst) : Eff C ⟨dst, .move x, ty, pos, after, gd⟩ s (ev C s x) [] (opT x) [] :=
  eff_pure hd fun σ hT hR a w ρ S Φ h1 h2 => ⟨a.eval x, rfl, by rw [← ev_same hT]; exact ev_rv h1 h2 x⟩
theorem eff_assign (x : Operand) (hd : dstOk C.n dst) : Eff C ⟨dst, .assign x, ty, pos, after, gd⟩ s (ev C s x) [] (opT x) [] :=
  eff_pure hd fun σ hT hR a w ρ S Φ h1 h2 => ⟨a.eval x, rfl, by rw [← ev_same hT]; exact ev_rv h1 h2 x⟩
theorem opT2 {x y : Operand} {σ : St} (h : ∀ t ∈ opT x ++ opT y, σ.slot t = s.slot t) : ev C σ x = ev C s x ∧ ev C σ y = ev C s y :=
  ⟨ev_same fun t ht => h t (List.mem_append_left _ ht), ev_same fun t ht => h t (List.mem_append_right _ ht)⟩
theorem opT3 {x y z : Operand} {σ : St} (h : ∀ t ∈ opT x ++ opT y ++ opT z, σ.slot t = s.slot t) : ev C σ x = ev C s x ∧ ev C σ y = ev C s y ∧ ev C σ z = ev C s z :=
  ⟨ev_same fun t ht => h t (by simp [ht]), ev_same fun t ht => h t (by simp [ht]), ev_same fun t ht => h t (by simp [ht])⟩
theorem eff_pickT (c x y : Operand) (e : ev C s c = .bool true) (hd : dstOk C.n dst) : Eff C ⟨dst, .pick c x y, ty, pos, after, gd⟩ s (ev C s x) [] (opT c ++ opT x ++ opT y) [] :=
  eff_pure hd fun σ hT hR a w ρ S Φ h1 h2 => by
    obtain ⟨e1, e2, e3⟩ := opT3 (C := C) hT
    have hc := inv_bool (by have := ev_rv h1 h2 c; rw [e1, e] at this; exact this)
    exact ⟨a.eval x, by simp [execOp, hc, asBool], by rw [← e2]; exact ev_rv h1 h2 x⟩
theorem eff_pickF (c x y : Operand) (e : ev C s c = .bool false) (hd : dstOk C.n dst) : Eff C ⟨dst, .pick c x y, ty, pos, after, gd⟩ s (ev C s y) [] (opT c ++ opT x ++ opT y) [] :=
  eff_pure hd fun σ hT hR a w ρ S Φ h1 h2 => by
    obtain ⟨e1, e2, e3⟩ := opT3 (C := C) hT
    have hc := inv_bool (by have := ev_rv h1 h2 c; rw [e1, e] at this; exact this)
    exact ⟨a.eval y, by simp [execOp, hc, asBool], by rw [← e3]; exact ev_rv h1 h2 y⟩
/-- A choice that is open: a truth that may be known under a condition only. -/
def truth : D → Option (Bool × Bool)
  | .bool b => some (true, b)
  | .iff c (.bool b) => some (c, b)
  | _ => none
theorem truth_ok {d : D} {c b : Bool} (e : truth d = some (c, b)) {w : World} {S : Nat → Prop} {ρ : Nat → Pl} {H : Nat → Sh} {v : Value} (h : RV w S ρ H d v []) (hc : c = true) : v = .bool b := by
  unfold truth at e
  split at e
  · injection e with e; injection e with e1 e2; subst e2; exact inv_bool h
  · injection e with e; injection e with e1 e2; subst e1; subst e2
    cases h with
    | iff _ _ _ h h0 => exact inv_bool (h hc)
  · cases e
/-- Which kind of choice: 1 'or', 2 'and'. -/
def pkK (x y : Operand) : Nat :=
  match x, y with
  | .const (.bool true), _ => 1
  | _, .const (.bool false) => 2
  | _, _ => 0
def pkB (k : Nat) (b bx by' : Bool) : Bool :=
  match k with
  | 1 => b || by'
  | 2 => b && bx
  | _ => cond b bx by'
theorem pkB_eq {C : Ctx} {s : St} {x y : Operand} {bx by' cx cy : Bool} (ex : truth (ev C s x) = some (cx, bx)) (ey : truth (ev C s y) = some (cy, by')) (b : Bool) : pkB (pkK x y) b bx by' = cond b bx by' := by
  unfold pkK
  split
  · have : bx = true := by have h : some (true, true) = some (cx, bx) := ex; injection h with h; injection h with h1 h2; exact h2.symm
    subst this
    cases b <;> rfl
  · have : by' = false := by have h : some (true, false) = some (cy, by') := ey; injection h with h; injection h with h1 h2; exact h2.symm
    subst this
    cases b <;> rfl
  · rfl
theorem eff_pickB (c x y : Operand) {b bx by' cc cx cy : Bool} (e : truth (ev C s c) = some (cc, b)) (ex : truth (ev C s x) = some (cx, bx)) (ey : truth (ev C s y) = some (cy, by')) (hcc : cc = true) (hx : b = true → cx = true) (hy : b = false → cy = true) (hd : dstOk C.n dst) :
    Eff C ⟨dst, .pick c x y, ty, pos, after, gd⟩ s (.bool (pkB (pkK x y) b bx by')) [] (opT c ++ opT x ++ opT y) [] :=
  eff_pure hd fun σ hT hR a w ρ S Φ h1 h2 => by
    obtain ⟨e1, e2, e3⟩ := opT3 (C := C) hT
    have hc := truth_ok e (by have := ev_rv h1 h2 c; rw [e1] at this; exact this) hcc
    rw [pkB_eq ex ey]
    refine ⟨.bool (cond b bx by'), ?_, .bool _⟩
    cases b
    · have := truth_ok ey (by have := ev_rv h1 h2 y; rw [e3] at this; exact this) (hy rfl)
      simp [execOp, hc, asBool, this]
    · have := truth_ok ex (by have := ev_rv h1 h2 x; rw [e2] at this; exact this) (hx rfl)
      simp [execOp, hc, asBool, this]
theorem eff_load (t : TypeId) (x : Operand) {g : Prop} {d : D} {R : List Nat} (e : ldD (tiOf C.P) s.ob t (ev C s x) = some (g, d, R)) (hg : g) (hd : dstOk C.n dst) : Eff C ⟨dst, .load t x, ty, pos, after, gd⟩ s d [] (opT x) R :=
  eff_pure hd fun σ hT hR a w ρ S Φ h1 h2 => by
    obtain ⟨v, h3, h4⟩ := ldD_ok h1 (ldD_loc (by rw [← ev_same hT] at e; exact e) hR) hg (ev_rv h1 h2 x)
    exact ⟨v, by simp [execOp, h3], h4⟩
theorem eff_fda (t : TypeId) (x : Operand) (f : Nat) {g : Prop} {d : D} {R : List Nat} (e : fdaD (tiOf C.P) s.ob t (ev C s x) f = some (g, d, R)) (hg : g) (hd : dstOk C.n dst) : Eff C ⟨dst, .fieldAddr t x f, ty, pos, after, gd⟩ s d [] (opT x) R :=
  eff_pure hd fun σ hT hR a w ρ S Φ h1 h2 => by
    obtain ⟨v, h3, h4⟩ := fdaD_ok h1 (fdaD_loc (by rw [← ev_same hT] at e; exact e) hR) hg (ev_rv h1 h2 x)
    exact ⟨v, by simp [execOp, h3], h4⟩
theorem eff_ixa (t : TypeId) (x y : Operand) {g : Prop} {d : D} {R : List Nat} (e : ixaD (tiOf C.P) s.ob t (ev C s x) (ev C s y) = some (g, d, R)) (hg : g) (hd : dstOk C.n dst) : Eff C ⟨dst, .indexAddr t x y, ty, pos, after, gd⟩ s d [] (opT x ++ opT y) R :=
  eff_pure hd fun σ hT hR a w ρ S Φ h1 h2 => by
    obtain ⟨e1, e2⟩ := opT2 (C := C) hT
    obtain ⟨v, h3, h4⟩ := ixaD_ok h1 (ixaD_loc (by rw [← e1, ← e2] at e; exact e) hR) hg (ev_rv h1 h2 x) (ev_rv h1 h2 y)
    exact ⟨v, by simp [execOp, h3], h4⟩
theorem eff_fld (t : TypeId) (x : Operand) (f : Nat) {g : Prop} {d : D} (e : fldD (tiOf C.P) t (ev C s x) f = some (g, d)) (hg : g) (hd : dstOk C.n dst) : Eff C ⟨dst, .field t x f, ty, pos, after, gd⟩ s d [] (opT x) [] :=
  eff_pure hd fun σ hT hR a w ρ S Φ h1 h2 => by
    obtain ⟨v, h3, h4⟩ := fldD_ok (by rw [← ev_same hT] at e; exact e) hg (ev_rv h1 h2 x)
    exact ⟨v, by simp [execOp, h3], h4⟩
theorem eff_idx (t : TypeId) (x y : Operand) {g : Prop} {d : D} (e : idxD (tiOf C.P) t (ev C s x) (ev C s y) = some (g, d)) (hg : g) (hd : dstOk C.n dst) : Eff C ⟨dst, .index t x y, ty, pos, after, gd⟩ s d [] (opT x ++ opT y) [] :=
  eff_pure hd fun σ hT hR a w ρ S Φ h1 h2 => by
    obtain ⟨e1, e2⟩ := opT2 (C := C) hT
    obtain ⟨v, h3, h4⟩ := idxD_ok (by rw [← e1, ← e2] at e; exact e) hg (ev_rv h1 h2 x) (ev_rv h1 h2 y)
    exact ⟨v, by simp [execOp, h3], h4⟩
theorem eqGuard_ok {P : Program} {w : World} {op : BinOp} {t : TypeId} {x y : Operand} {vx vy : Value} {dx dy : D} {H : Nat → Sh} {S : Nat → Prop} {ρ : Nat → Pl} {ty : Ty} {r : Prop × D × List Nat} (e : binD H ty op dx dy = some r) (hx : RV w S ρ H dx vx []) (hy : RV w S ρ H dy vy []) :
    (eqGuard op t x y vx vy).run P w = .ok () w := by
  have key : (∀ c c', ¬ (vx = .agg c ∧ vy = .agg c')) → ¬ (vx = .nilIface ∧ vy = .nilIface) → (eqGuard op t x y vx vy).run P w = .ok () w := by
    intro h1 h2
    cases op <;> try rfl
    all_goals
      cases vx <;> try rfl
      all_goals
        cases vy <;> try rfl
        first | exact absurd ⟨rfl, rfl⟩ (h1 _ _) | exact absurd ⟨rfl, rfl⟩ h2
  unfold binD at e
  split at e <;> first | (cases e; done) | skip
  all_goals
    first
      | (obtain rfl := inv_int hx; exact key (fun c c' h => by cases h.1) (fun h => by cases h.1))
      | (obtain rfl := inv_u8 hx; exact key (fun c c' h => by cases h.1) (fun h => by cases h.1))
      | (obtain rfl := inv_u32 hx; exact key (fun c c' h => by cases h.1) (fun h => by cases h.1))
      | (obtain rfl := inv_str hx; exact key (fun c c' h => by cases h.1) (fun h => by cases h.1))
      | (obtain rfl := inv_bool hx; exact key (fun c c' h => by cases h.1) (fun h => by cases h.1))
      | (obtain rfl := inv_nilP hy; exact key (fun c c' h => by cases h.2) (fun h => by cases h.2))
      | (obtain rfl := inv_nilS hy; exact key (fun c c' h => by cases h.2) (fun h => by cases h.2))
theorem binD_loc {H H' : Nat → Sh} {ty : Ty} {op : BinOp} {x y : D} {g : Prop} {d : D} {R : List Nat} (e : binD H ty op x y = some (g, d, R)) (h : ∀ o ∈ R, H' o = H o) : binD H' ty op x y = some (g, d, R) := by
  unfold binD at *
  split at e <;> first
    | exact e
    | (split at e <;> first
        | exact e
        | (injection e with e; injection e with e1 e2; injection e2 with e2 e3; subst e3; simp only [h _ (List.mem_singleton.2 rfl)]; rw [← e1, ← e2])
        | cases e)
theorem sh_same {σ : St} {R : List Nat} (hR : ∀ x ∈ R, σ.ob x = s.ob x) : ∀ x ∈ R, σ.sh x = s.sh x := fun x hx => by unfold St.sh; rw [hR x hx]
theorem eff_bin (op : BinOp) (t t' : TypeId) (x y : Operand) {g : Prop} {d : D} {R : List Nat} (e : binD s.sh (tiOf C.P t).ty op (ev C s x) (ev C s y) = some (g, d, R)) (hg : g) (hd : dstOk C.n dst) : Eff C ⟨dst, .binOp op t x y t', ty, pos, after, gd⟩ s d [] (opT x ++ opT y) R :=
  eff_pure hd fun σ hT hR a w ρ S Φ h1 h2 => by
    obtain ⟨e1, e2⟩ := opT2 (C := C) hT
    rw [← e1, ← e2] at e
    have e' := binD_loc e (sh_same hR)
    obtain ⟨v, h3, h4⟩ := binD_ok (P := C.P) (w := w) (op := op) (T := t) e' hg (ev_rv h1 h2 x) (ev_rv h1 h2 y)
    have h5 := eqGuard_ok (P := C.P) (op := op) (t := t) (x := x) (y := y) e' (ev_rv h1 h2 x) (ev_rv h1 h2 y)
    exact ⟨v, by simp [execOp, h3, h5], h4⟩
theorem eff_eqa (op : BinOp) (t t' : TypeId) (x y : Operand) {g : Prop} {d : D} (e : eqaD (tiOf C.P) op t (ev C s x) (ev C s y) = some (g, d)) (hg : g) (hd : dstOk C.n dst) : Eff C ⟨dst, .binOp op t x y t', ty, pos, after, gd⟩ s d [] (opT x ++ opT y) [] :=
  eff_pure hd fun σ hT hR a w ρ S Φ h1 h2 => by
    obtain ⟨e1, e2⟩ := opT2 (C := C) hT
    rw [← e1, ← e2] at e
    obtain ⟨v, h5, h3, h4⟩ := eqaD_ok (w := w) e hg (ev_rv h1 h2 x) (ev_rv h1 h2 y) x y
    exact ⟨v, by simp [execOp, h3, h5], h4⟩
theorem eff_un (op : UnOp) (t : TypeId) (x : Operand) {g : Prop} {d : D} (e : unD op (ev C s x) = some (g, d)) (hg : g) (hd : dstOk C.n dst) : Eff C ⟨dst, .unOp op t x, ty, pos, after, gd⟩ s d [] (opT x) [] :=
  eff_pure hd fun σ hT hR a w ρ S Φ h1 h2 => by
    obtain ⟨v, h3, h4⟩ := unD_ok (P := C.P) (w := w) (by rw [← ev_same hT] at e; exact e) hg (ev_rv h1 h2 x)
    exact ⟨v, by simp [execOp, h3], h4⟩
theorem eff_cv (t t' : TypeId) (x : Operand) {g : Prop} {d : D} (e : cvD (tiOf C.P) t t' (ev C s x) = some (g, d)) (hg : g) (hd : dstOk C.n dst) : Eff C ⟨dst, .convert t t' x, ty, pos, after, gd⟩ s d [] (opT x) [] :=
  eff_pure hd fun σ hT hR a w ρ S Φ h1 h2 => by
    obtain ⟨v, h3, h4⟩ := cvD_ok (w := w) (by rw [← ev_same hT] at e; exact e) hg (ev_rv h1 h2 x)
    exact ⟨v, by simp [execOp, h3], h4⟩
/-- 'string(b)' -/
theorem eff_b2s (t t' : TypeId) (x : Operand) {e0 : Nat} (ht : (tiOf C.P t).ty = .slice e0) (ht' : (tiOf C.P t').ty = .str) (he : (tiOf C.P e0).ty = .int .u8) {g : Prop} {l : List UInt8} {R : List Nat} (e : byt s.ob (ev C s x) = some (g, l, R)) (hg : g) (hd : dstOk C.n dst) :
    Eff C ⟨dst, .convert t t' x, ty, pos, after, gd⟩ s (.str l) [] (opT x) R :=
  eff_pure hd fun σ hT hR a w ρ S Φ h1 h2 => by
    have h3 := b2s_ok h1 ht ht' he (byt_loc (by rw [← ev_same hT] at e; exact e) hR) hg (ev_rv h1 h2 x)
    exact ⟨_, by simp [execOp, h3], .str l⟩
theorem eff_slc (t : TypeId) (x : Operand) (lo hi : Option Operand) {g : Prop} {d : D} {R : List Nat} (e : slcD (tiOf C.P) s.ob t (ev C s x) (lo.map (ev C s)) (hi.map (ev C s)) = some (g, d, R)) (hg : g) (hsz : ∀ el, (tiOf C.P t).ty = .slice el → (tiOf C.P el).sz ≠ 0 ∧ (byt s.ob (ev C s x) ≠ none → (tiOf C.P el).sz = 1)) (hd : dstOk C.n dst) :
    Eff C ⟨dst, .slice t x lo hi none, ty, pos, after, gd⟩ s d [] (opT x ++ (lo.elim [] opT) ++ (hi.elim [] opT)) R :=
  eff_pure hd fun σ hT hR a w ρ S Φ h1 h2 => by
    have e1 : ev C σ x = ev C s x := ev_same fun t ht => hT t (by simp [ht])
    have e2 : lo.map (ev C σ) = lo.map (ev C s) := by
      cases lo with
      | none => rfl
      | some z => exact congrArg some (ev_same fun t ht => hT t (by simp [ht]))
    have e3 : hi.map (ev C σ) = hi.map (ev C s) := by
      cases hi with
      | none => rfl
      | some z => exact congrArg some (ev_same fun t ht => hT t (by simp [ht]))
    rw [← e1, ← e2, ← e3] at e
    have e' := slcD_loc e hR
    obtain ⟨v, h3, h4⟩ := slcD_ok (vx := a.eval x) (vlo := lo.map a.eval) (vhi := hi.map a.eval) h1 e' hg (ev_rv h1 h2 x)
      (fun d hq => by cases lo with | none => cases hq | some z => injection hq with hq; subst hq; exact ⟨_, rfl, ev_rv h1 h2 z⟩) (fun hq => by cases lo with | none => rfl | some z => cases hq)
      (fun d hq => by cases hi with | none => cases hq | some z => injection hq with hq; subst hq; exact ⟨_, rfl, ev_rv h1 h2 z⟩) (fun hq => by cases hi with | none => rfl | some z => cases hq)
      (fun el hel => ⟨_, run_sz' (hsz el hel).1, fun hne => (hsz el hel).2 (by
        rw [e1] at hne e
        generalize ev C s x = dx at hne e
        cases dx <;> first
          | (exact absurd rfl hne)
          | (intro hb; cases hb; done)
          | skip
        rename_i o g0 off len
        have hRo : o ∈ R := by
          unfold slcD at e
          rw [hel] at e
          split at e
          · injection e with e; injection e with e4 e5; injection e5 with e5 e6; rw [← e6]; simp
          · cases e
        unfold byt at hne ⊢
        dsimp only at hne ⊢
        rw [hR o hRo] at hne
        exact hne)⟩)
    exact ⟨v, by simp [execOp, h3], h4⟩
theorem eff_ap (t : TypeId) (x : Operand) {g : Prop} {d : D} {R : List Nat} (e : apD (tiOf C.P) s.ob t (ev C s x) = some (g, d, R)) (hg : g) (hd : dstOk C.n dst) : Eff C ⟨dst, .sliceToArrayPointer t x, ty, pos, after, gd⟩ s d [] (opT x) R :=
  eff_pure hd fun σ hT hR a w ρ S Φ h1 h2 => by
    obtain ⟨v, h3, h4⟩ := apD_ok (apD_loc (by rw [← ev_same hT] at e; exact e) hR) hg (ev_rv h1 h2 x)
    exact ⟨v, by simp [execOp, h3], h4⟩
theorem eff_len (t : TypeId) (x : Operand) {g : Prop} {d : D} {R : List Nat} (e : lenD (tiOf C.P) s.ob t (ev C s x) = some (g, d, R)) (hg : g) (hd : dstOk C.n dst) : Eff C ⟨dst, .call { callee := .builtin .len, args := #[x], argTypes := #[t] }, ty, pos, after, gd⟩ s d [] (opT x) R :=
  eff_pure hd fun σ hT hR a w ρ S Φ h1 h2 => by
    obtain ⟨v, h3, h4⟩ := lenD_ok (ty := ty) (lenD_loc (by rw [← ev_same hT] at e; exact e) hR) hg (ev_rv h1 h2 x)
    exact ⟨v, by simp [execOp, resolve, invoke, builtin, h3], h4⟩
theorem eff_min (T : Array TypeId) (x y : Operand) {d : D} (e : minD (ev C s x) (ev C s y) = some d) (hd : dstOk C.n dst) : Eff C ⟨dst, .call { callee := .builtin .min, args := #[x, y], argTypes := T }, ty, pos, after, gd⟩ s d [] (opT x ++ opT y) [] :=
  eff_pure hd fun σ hT hR a w ρ S Φ h1 h2 => by
    obtain ⟨e1, e2⟩ := opT2 (C := C) hT
    rw [← e1, ← e2] at e
    obtain ⟨v, h3, h4⟩ := minD_ok (P := C.P) (w := w) (T := T) (ty := ty) e (ev_rv h1 h2 x) (ev_rv h1 h2 y)
    exact ⟨v, by simp [execOp, resolve, invoke, builtin, h3], h4⟩
/-- What a nil check lets by. -/
def nckD (O : Nat → Ob) (d : D) : Option (Prop × List Nat) :=
  match d with
  | .ptr o g _ => some (True, [])
  | .rop _ _ => some (True, [])
  | .rpf _ _ _ _ _ => some (True, [])
  | .rpb _ _ => some (True, [])
  | .fn _ => some (True, [])
  | .chunk _ _ _ => some (True, [])
  | _ => none
theorem eff_nck (x : Operand) {g : Prop} {R : List Nat} (e : nckD s.ob (ev C s x) = some (g, R)) (hg : g) (hd : dstOk C.n dst) : Eff C ⟨dst, .nilCheck x, ty, pos, after, gd⟩ s (ev C s x) [] (opT x) R :=
  eff_pure hd fun σ hT hR a w ρ S Φ h1 h2 => by
    have hv := ev_rv h1 h2 x
    have e1 := ev_same (C := C) hT
    rw [e1] at hv
    refine ⟨a.eval x, ?_, hv⟩
    unfold nckD at e
    split at e
    · rename_i o g' off heq
      injection e with e; injection e with e2 e3
      subst e2; subst e3
      rw [heq] at hv
      have : ∃ p, a.eval x = .pointer (some p) := by
        generalize a.eval x = v at hv
        cases hv with
        | ptr _ _ _ _ h1 _ _ => exact isPt_ex h1
      obtain ⟨p, this⟩ := this
      simp [execOp, this]
    · rename_i off cs heq
      rw [heq] at hv
      have : ∃ p, a.eval x = .pointer (some p) := by
        generalize a.eval x = v at hv
        cases hv
        exact ⟨_, rfl⟩
      obtain ⟨p, hp⟩ := this
      simp [execOp, hp]
    · rename_i heq
      rw [heq] at hv
      have : ∃ p, a.eval x = .pointer (some p) := by
        generalize a.eval x = v at hv
        cases hv
        exact ⟨_, rfl⟩
      obtain ⟨p, hp⟩ := this
      simp [execOp, hp]
    · rename_i heq
      rw [heq] at hv
      have : ∃ p, a.eval x = .pointer (some p) := by
        generalize a.eval x = v at hv
        cases hv
        exact ⟨_, rfl⟩
      obtain ⟨p, hp⟩ := this
      simp [execOp, hp]
    · rename_i f heq
      rw [heq] at hv
      have : a.eval x = .func (.func f) #[] #[] := by
        generalize a.eval x = v at hv
        cases hv
        rfl
      simp [execOp, this]
    · rename_i f l n heq
      rw [heq] at hv
      have : ∃ c, a.eval x = .func (.func f) #[] c := by
        generalize a.eval x = v at hv
        cases hv
        exact ⟨_, rfl⟩
      obtain ⟨c, hc⟩ := this
      simp [execOp, hc]
    · cases e
theorem eff_ext (x : Operand) (i : Nat) {cs : List D} (e : ev C s x = .tup cs) (hi : i < cs.length) (hd : dstOk C.n dst) : Eff C ⟨dst, .extract x i, ty, pos, after, gd⟩ s (cs.getD i .bot) [] (opT x) [] :=
  eff_pure hd fun σ hT hR a w ρ S Φ h1 h2 => by
    have hv := ev_rv h1 h2 x
    rw [ev_same (C := C) hT, e] at hv
    obtain ⟨vs, hvs, hl, hr⟩ := inv_tup hv
    have hiv : i < vs.length := by omega
    exact ⟨vs[i], by simp [execOp, hvs, Instr.extract, hiv], hr i _ _ (getD_some hi) (List.getElem?_eq_getElem hiv)⟩
end
end Go.Proofs.YtabkpoklihkifaaDoor

/- The effects of the operations that lay memory or write. Over any program. -/
namespace Go.Proofs.YtabkpoklihkifaaDoor
open Go Go.RowKit
set_option linter.unusedVariables false
set_option linter.unusedSimpArgs false

/-- The object of that name, made anew. -/
def nob (s : St) (o esz : Nat) (c : Cont) : Ob := ⟨⟨(s.ob o).sh.gen + 1, esz, c.len⟩, some c⟩
theorem nob_nxt (s : St) (o esz : Nat) (c : Cont) : nob s o esz c = s.nxt o esz c := rfl

section
variable {C : Ctx} {s : St} {t : Nat} {ty : TypeId} {pos : String} {after : Array Edge} {gd : Option (Nat × Bool)}
theorem nob_same {σ : St} {o esz : Nat} {c : Cont} (h : σ.ob o = s.ob o) : σ.lay o (nob s o esz c) = σ.lay1 o esz c := by
  unfold St.lay1
  rw [← nob_nxt]
  unfold nob
  rw [h]
theorem run_v {P : Program} {w : World} (x : Sem Value) : (do pure (Next.value (← x)) : Sem Next).run P w = (x.run P w).andThen fun v w => .ok (.value v) w := by
  rw [Sem.run_bind]
  rfl
theorem gen_same {σ : St} {o : Nat} (h : σ.ob o = s.ob o) : (σ.sh o).gen = (s.ob o).sh.gen := by unfold St.sh; rw [h]

theorem eff_alloc (T : TypeId) {c : Cont} (e : boxC (tiOf C.P T).zero = some c) (hd : t < C.n) : Eff C ⟨some t, .alloc T, ty, pos, after, gd⟩ s (.ptr t ((s.ob t).sh.gen + 1) 0) [(t, nob s t (eszOf (tiOf C.P) T) c)] [] [t] :=
  eff_lay (dstOk_some hd) fun σ hT hR a w ρ S Φ h1 h2 => by
    refine ⟨_, run_v _, ?_⟩
    have h := alloc_ok h1 t e (eszOf (tiOf C.P) T)
    rw [nob_same (hR t (by simp)), ← gen_same (hR t (by simp))]
    exact h
theorem eff_box (T : TypeId) (x : Operand) {c : Cont} (e : boxC (ev C s x) = some c) (hd : t < C.n) : Eff C ⟨some t, .box T x, ty, pos, after, gd⟩ s (.ptr t ((s.ob t).sh.gen + 1) 0) [(t, nob s t (eszOf (tiOf C.P) T) c)] (opT x) [t] :=
  eff_lay (dstOk_some hd) fun σ hT hR a w ρ S Φ h1 h2 => by
    refine ⟨_, run_v _, ?_⟩
    rw [← ev_same (C := C) hT] at e
    have h := box_ok h1 t (t := T) e (ev_rv h1 h2 x) (eszOf (tiOf C.P) T)
    rw [nob_same (hR t (by simp)), ← gen_same (hR t (by simp))]
    exact h
/-- Parts, as operands. -/
def prts (C : Ctx) (s : St) (ps : Array (Nat × Operand)) : List (Nat × D) := ps.toList.map fun p => (p.1, ev C s p.2)
def prtsT (ps : Array (Nat × Operand)) : List Nat := ps.toList.flatMap fun p => opT p.2
theorem prts_same {σ : St} {ps : Array (Nat × Operand)} (h : ∀ t ∈ prtsT ps, σ.slot t = s.slot t) : prts C σ ps = prts C s ps := by
  unfold prts
  refine List.map_congr_left fun p hp => ?_
  rw [ev_same (C := C) (fun t ht => h t (List.mem_flatMap.2 ⟨p, hp, ht⟩))]
theorem prts_ok {σ : St} {a : Act} {w : World} {ρ : Nat → Pl} {S : Nat → Prop} {Φ : Nat → List Nat} (h1 : RepW C σ ρ S Φ w) (h2 : ∀ t, RV w S ρ σ.sh (σ.slot t) (a.tmps.getD t undef) []) (ps : Array (Nat × Operand)) :
    Parts w S ρ σ.sh (prts C σ ps) (ps.map fun (i, x) => (i, a.eval x)).toList := by
  refine ⟨by simp [prts], fun i p q h3 h4 => ?_⟩
  rw [Array.toList_map, List.getElem?_map] at h4
  unfold prts at h3
  rw [List.getElem?_map] at h3
  rcases hx : ps.toList[i]? with _ | z
  · rw [hx] at h3; cases h3
  · rw [hx] at h3 h4
    injection h3 with h3
    injection h4 with h4
    subst h3; subst h4
    exact ⟨rfl, ev_rv h1 h2 z.2⟩
theorem eff_build {dst : Option Tmp} (T : TypeId) (ps : Array (Nat × Operand)) {g : Prop} {d : D} (e : bldD (tiOf C.P) T (prts C s ps) = some (g, d)) (hg : g) (hd : dstOk C.n dst) : Eff C ⟨dst, .build T ps, ty, pos, after, gd⟩ s d [] (prtsT ps) [] :=
  eff_pure hd fun σ hT hR a w ρ S Φ h1 h2 => by
    rw [← prts_same (C := C) hT] at e
    obtain ⟨v, h3, h4⟩ := bld_ok (w := w) e hg (prts_ok h1 h2 ps)
    exact ⟨v, by simp only [execOp, Sem.run_bind, h3, Result.andThen_ok, Sem.run_pure], h4⟩
theorem eff_bslice (T : TypeId) (n : Nat) (ps : Array (Nat × Operand)) {g : Prop} {esz : Nat} {c : Cont} (e : bslD (tiOf C.P) T n (prts C s ps) = some (g, esz, c)) (hg : g) (hd : t < C.n) :
    Eff C ⟨some t, .buildSlice T n ps, ty, pos, after, gd⟩ s (.sl t ((s.ob t).sh.gen + 1) 0 n) [(t, nob s t esz c)] (prtsT ps) [t] :=
  eff_lay (dstOk_some hd) fun σ hT hR a w ρ S Φ h1 h2 => by
    refine ⟨_, run_v _, ?_⟩
    rw [← prts_same (C := C) hT] at e
    have h := bsl_ok h1 t (qs := ps.map fun (i, x) => (i, a.eval x)) e hg (prts_ok h1 h2 ps)
    rw [nob_same (hR t (by simp)), ← gen_same (hR t (by simp))]
    exact h
/-- 'make([]byte, n)' -/
theorem eff_make (T : TypeId) (x : Operand) {e0 : Nat} (ht : (tiOf C.P T).ty = .slice e0) (hz : (tiOf C.P e0).zero = .u8 0) (hs : (tiOf C.P e0).sz = 1) (hb : (tiOf C.P e0).by_ = 1) {k : IntKind} {n : Int} (e : ev C s x = .int k n) (h0 : 0 ≤ n) (h1' : n ≤ 140737488355328) (y : Operand) (e2 : ev C s y = .int k n) (hd : t < C.n) :
    Eff C ⟨some t, .makeSlice T x y, ty, pos, after, gd⟩ s (.sl t ((s.ob t).sh.gen + 1) 0 n.toNat) [(t, nob s t 1 (.bytes (List.replicate n.toNat 0)))] (opT x ++ opT y) [t] :=
  eff_lay (dstOk_some hd) fun σ hT hR a w ρ S Φ h1 h2 => by
    refine ⟨_, run_v _, ?_⟩
    obtain ⟨q1, q2⟩ := opT2 (C := C) hT
    have hx := inv_int (by have := ev_rv h1 h2 x; rw [q1, e] at this; exact this)
    have hy := inv_int (by have := ev_rv h1 h2 y; rw [q2, e2] at this; exact this)
    have h := mk_ok h1 t ht hz hs hb h0 h1' (k := k) (k' := k)
    rw [nob_same (hR t (by simp)), ← gen_same (hR t (by simp))]
    simp only [hx, hy]
    exact h
/-- '[]byte(s)' -/
theorem eff_s2b (T T' : TypeId) (x : Operand) {e0 : Nat} (ht : (tiOf C.P T).ty = .str) (ht' : (tiOf C.P T').ty = .slice e0) (he : (tiOf C.P e0).ty = .int .u8) {l : List UInt8} (e : ev C s x = .str l) (hl : l.length ≤ 140737488355328) (hd : t < C.n) :
    Eff C ⟨some t, .convert T T' x, ty, pos, after, gd⟩ s (.sl t ((s.ob t).sh.gen + 1) 0 l.length) [(t, nob s t 1 (.bytes l))] (opT x) [t] :=
  eff_lay (dstOk_some hd) fun σ hT hR a w ρ S Φ h1 h2 => by
    refine ⟨_, run_v _, ?_⟩
    have hx := inv_str (by have := ev_rv h1 h2 x; rw [ev_same (C := C) hT, e] at this; exact this)
    have h := s2b_ok h1 t ht ht' he hl
    rw [nob_same (hR t (by simp)), ← gen_same (hR t (by simp))]
    simp only [hx]
    exact h
theorem bytc_form {O : Nat → Ob} {y : D} {g : Prop} {l : List UInt8} {R : List Nat} (e : bytc O y = some (g, l, R)) : ∃ o g' off len, y = .sl o g' off len ∧ R = [o] := by
  unfold bytc at e
  split at e
  · rename_i o g' off len
    split at e
    · injection e with e; injection e with e1 e2; injection e2 with e2 e3
      exact ⟨o, g', off, len, rfl, e3.symm⟩
    · cases e
  · cases e
theorem bsrc_loc {P : Program} {O O' : Nat → Ob} {T : TypeId} {y : D} {g : Prop} {l : List UInt8} {R : List Nat} (e : bsrc (tiOf P) O T y = some (g, l, R)) (h : ∀ o ∈ R, O' o = O o) : bsrc (tiOf P) O' T y = some (g, l, R) := by
  unfold bsrc at *
  split at e
  · exact e
  · split at e
    · rename_i r hb
      injection e with e
      subst e
      rw [byt_loc hb h]
    · rename_i hb
      obtain ⟨o, g', off, len, hy, hR⟩ := bytc_form e
      subst hy hR
      have q := h o (by simp)
      have hb' : byt O' (.sl o g' off len) = none := by
        rw [← hb]
        simp only [byt, q]
      have e' : bytc O' (.sl o g' off len) = some (g, l, [o]) := by
        rw [← e]
        simp only [bytc, q]
      rw [hb']
      exact e'
  · cases e
theorem els_loc {O O' : Nat → Ob} {sz : Nat} {y : D} {g : Prop} {cs : List D} {n : Nat} {R : List Nat} (e : els O sz y = some (g, cs, n, R)) (h : ∀ o ∈ R, O' o = O o) : els O' sz y = some (g, cs, n, R) := by
  unfold els at *
  split at e
  · exact e
  · exact e
  · exact e
  · rename_i o g' off len
    have hR : R = [o] := by split at e <;> first | (injection e with e; injection e with e1 e2; injection e2 with e2 e3; injection e3 with e3 e4; exact e4.symm) | cases e
    subst hR
    rw [h o (by simp)]
    exact e
  · cases e
theorem apbD_loc {P : Program} {O O' : Nat → Ob} {t : Nat} {T T2 : TypeId} {x y : D} {g : Prop} {o : Nat} {c : Cont} {n : Nat} {R : List Nat} (e : apbD (tiOf P) O t T T2 x y = some (g, o, c, n, R)) (h : ∀ o ∈ R, O' o = O o) : apbD (tiOf P) O' t T T2 x y = some (g, o, c, n, R) ∧ o ∈ R := by
  unfold apbD at *
  split at e
  · rename_i el gy yl Ry ht hb
    split at e
    · injection e with e; injection e with e1 e2; injection e2 with e2 e3; injection e3 with e3 e4; injection e4 with e4 e5
      subst e1; subst e2; subst e3; subst e4; subst e5
      have hb' := bsrc_loc (O' := O') hb (fun o ho => h o (by simp [ho]))
      simp only [ht, hb']
      simp
    · rename_i o' g' off len
      split at e
      · rename_i l ho
        injection e with e; injection e with e1 e2; injection e2 with e2 e3; injection e3 with e3 e4; injection e4 with e4 e5
        subst e1; subst e2; subst e3; subst e4; subst e5
        have hb' := bsrc_loc (O' := O') hb (fun o ho => h o (by simp [ho]))
        simp only [ht, hb', h o' (by simp), ho]
        simp
      · cases e
    · cases e
  · cases e
theorem apcD_loc {P : Program} {O O' : Nat → Ob} {t : Nat} {T T2 : TypeId} {x y : D} {g : Prop} {o esz : Nat} {c : Cont} {n : Nat} {R : List Nat} (e : apcD (tiOf P) O t T T2 x y = some (g, o, esz, c, n, R)) (h : ∀ o ∈ R, O' o = O o) : apcD (tiOf P) O' t T T2 x y = some (g, o, esz, c, n, R) ∧ o ∈ R := by
  unfold apcD at *
  split at e
  · rename_i el ht
    split at e
    · rename_i gy ys ny Ry he
      split at e
      · injection e with e; injection e with e1 e2; injection e2 with e2 e3; injection e3 with e3 e4; injection e4 with e4 e5; injection e5 with e5 e6
        subst e1; subst e2; subst e3; subst e4; subst e5; subst e6
        have he' := els_loc (O' := O') he (fun o ho => h o (by simp [ho]))
        simp only [ht, he']
        simp
      · rename_i o' g' off len
        split at e
        · rename_i cs ho
          injection e with e; injection e with e1 e2; injection e2 with e2 e3; injection e3 with e3 e4; injection e4 with e4 e5; injection e5 with e5 e6
          subst e1; subst e2; subst e3; subst e4; subst e5; subst e6
          have he' := els_loc (O' := O') he (fun o ho => h o (by simp [ho]))
          simp only [ht, he', h o' (by simp), ho]
          simp
        · cases e
      · cases e
    · cases e
  · cases e
theorem cpbD_loc {P : Program} {O O' : Nat → Ob} {T T2 : TypeId} {x y : D} {g : Prop} {o : Nat} {b : Ob} {d : D} {R : List Nat} (e : cpbD (tiOf P) O T T2 x y = some (g, o, b, d, R)) (h : ∀ o ∈ R, O' o = O o) : cpbD (tiOf P) O' T T2 x y = some (g, o, b, d, R) := by
  unfold cpbD at *
  split at e
  · rename_i el gy yl Ry o' g' off len ht hb
    split at e
    · rename_i l ho
      injection e with e; injection e with e1 e2; injection e2 with e2 e3; injection e3 with e3 e4; injection e4 with e4 e5
      subst e1; subst e2; subst e3; subst e4; subst e5
      have hb' := bsrc_loc (O' := O') hb (fun o ho => h o (by simp [ho]))
      simp only [ht, hb', h o' (by simp), ho]
    · cases e
  · cases e
theorem stoD_loc {P : Program} {O O' : Nat → Ob} {t : TypeId} {x y : D} {g : Prop} {o : Nat} {b : Ob} {R : List Nat} (e : stoD (tiOf P) O t x y = some (g, o, b, R)) (h : ∀ o ∈ R, O' o = O o) : stoD (tiOf P) O' t x y = some (g, o, b, R) := by
  unfold stoD at *
  split at e
  · rename_i o' g' off
    have hR : R = [o'] := by
      split at e
      · injection e with e; injection e with e1 e2; injection e2 with e2 e3; injection e3 with e3 e4; exact e4.symm
      · injection e with e; injection e with e1 e2; injection e2 with e2 e3; injection e3 with e3 e4; exact e4.symm
      · split at e <;> (injection e with e; injection e with e1 e2; injection e2 with e2 e3; injection e3 with e3 e4; exact e4.symm)
      · cases e
    subst hR
    rw [h o' (by simp)]
    exact e
  · cases e
theorem eff_apb {dst : Option Tmp} (T T2 : TypeId) (x y : Operand) {g : Prop} {o : Nat} {c : Cont} {n : Nat} {R : List Nat} (e : apbD (tiOf C.P) s.ob (dst.getD 0) T T2 (ev C s x) (ev C s y) = some (g, o, c, n, R)) (hg : g) (hd : dstOk C.n dst) :
    Eff C ⟨dst, .call { callee := .builtin .append, args := #[x, y], argTypes := #[T, T2] }, ty, pos, after, gd⟩ s (.sl o ((s.ob o).sh.gen + 1) 0 n) [(o, nob s o 1 c)] (opT x ++ opT y) R :=
  eff_lay hd fun σ hT hR a w ρ S Φ h1 h2 => by
    obtain ⟨q1, q2⟩ := opT2 (C := C) hT
    rw [← q1, ← q2] at e
    obtain ⟨e', ho⟩ := apbD_loc e hR
    have h := apb_ok (ty := ty) h1 e' hg (ev_rv h1 h2 x) (ev_rv h1 h2 y)
    rw [nob_same (hR o ho), ← gen_same (hR o ho)]
    exact ⟨_, by simp [execOp, resolve, invoke, builtin], h⟩
theorem eff_apc {dst : Option Tmp} (T T2 : TypeId) (x y : Operand) {g : Prop} {o esz : Nat} {c : Cont} {n : Nat} {R : List Nat} (e : apcD (tiOf C.P) s.ob (dst.getD 0) T T2 (ev C s x) (ev C s y) = some (g, o, esz, c, n, R)) (hg : g) (hd : dstOk C.n dst) :
    Eff C ⟨dst, .call { callee := .builtin .append, args := #[x, y], argTypes := #[T, T2] }, ty, pos, after, gd⟩ s (.sl o ((s.ob o).sh.gen + 1) 0 n) [(o, nob s o esz c)] (opT x ++ opT y) R :=
  eff_lay hd fun σ hT hR a w ρ S Φ h1 h2 => by
    obtain ⟨q1, q2⟩ := opT2 (C := C) hT
    rw [← q1, ← q2] at e
    obtain ⟨e', ho⟩ := apcD_loc e hR
    have h := apc_ok (ty := ty) h1 e' hg (ev_rv h1 h2 x) (ev_rv h1 h2 y)
    rw [nob_same (hR o ho), ← gen_same (hR o ho)]
    exact ⟨_, by simp [execOp, resolve, invoke, builtin], h⟩
theorem eff_cpb {dst : Option Tmp} (T T2 : TypeId) (x y : Operand) {g : Prop} {o : Nat} {b : Ob} {d : D} {R : List Nat} (e : cpbD (tiOf C.P) s.ob T T2 (ev C s x) (ev C s y) = some (g, o, b, d, R)) (hg : g) (hd : dstOk C.n dst) :
    Eff C ⟨dst, .call { callee := .builtin .copy, args := #[x, y], argTypes := #[T, T2] }, ty, pos, after, gd⟩ s d [(o, b)] (opT x ++ opT y) R :=
  eff_lay hd fun σ hT hR a w ρ S Φ h1 h2 => by
    obtain ⟨q1, q2⟩ := opT2 (C := C) hT
    rw [← q1, ← q2] at e
    have h := cpb_ok (ty := ty) h1 (cpbD_loc e hR) hg (ev_rv h1 h2 x) (ev_rv h1 h2 y)
    exact ⟨_, by simp [execOp, resolve, invoke, builtin], h⟩
theorem eff_mk {dst : Option Tmp} (T T' : TypeId) (x : Operand) {g : Prop} {o : Nat} {b : Ob} {d : D} {R : List Nat} (e : mkD (tiOf C.P) s.ob T T' (ev C s x) = some (g, o, b, d, R)) (hg : g) (hd : dstOk C.n dst) :
    Eff C ⟨dst, .convert T T' x, ty, pos, after, gd⟩ s d [(o, b)] (opT x) R :=
  eff_lay hd fun σ hT hR a w ρ S Φ h1 h2 => by
    rw [← ev_same hT] at e
    have h := mrk_ok h1 (mkD_loc e hR) hg (ev_rv h1 h2 x)
    exact ⟨_, by simp [execOp], h⟩
theorem eff_store (T : TypeId) (x y : Operand) {g : Prop} {o : Nat} {b : Ob} {R : List Nat} (e : stoD (tiOf C.P) s.ob T (ev C s x) (ev C s y) = some (g, o, b, R)) (hg : g) :
    Eff C ⟨none, .store T x y, ty, pos, after, gd⟩ s .bot [(o, b)] (opT x ++ opT y) R := by
  intro σ hT hR K Q a w hrep hK
  obtain ⟨h1, h2, ρ, S, Φ, h3, h4⟩ := hrep
  obtain ⟨q1, q2⟩ := opT2 (C := C) hT
  rw [← q1, ← q2] at e
  obtain ⟨w', Φ', k1, k2, k3⟩ := sto_ok h3 (stoD_loc e hR) hg (ev_rv h3 h4 x) (ev_rv h3 h4 y)
  exact wp_skip_ (w' := w') (by simp [execOp, k1]) (hK _ _ (rep_put (s' := σ.lay o b) h1 h2 k2 (fun t => k3 _ _ (h4 t)) none dstOk_none .bot undef (.bot _)))
end
end Go.Proofs.YtabkpoklihkifaaDoor

/- The effect of a call by a contract. Over any program. -/
namespace Go.Proofs.YtabkpoklihkifaaDoor
open Go Go.RowKit
set_option linter.unusedVariables false
set_option linter.unusedSimpArgs false

/-- What is taken in: the value, and the objects. -/
def ad1O (O : Nat → Ob) (t : Nat) (d : D) : D × List (Nat × Ob) :=
  match d with
  | .ownb l => (.sl t ((O t).sh.gen + 1) 0 l.length, [(t, ⟨⟨(O t).sh.gen + 1, 1, l.length⟩, some (.bytes l)⟩)])
  | .owns e n cs => (.sl t ((O t).sh.gen + 1) 0 n, [(t, ⟨⟨(O t).sh.gen + 1, e, cs.length⟩, some (.cells cs)⟩)])
  | .ownp cs => (.ptr t ((O t).sh.gen + 1) 0, [(t, ⟨⟨(O t).sh.gen + 1, 1, cs.length⟩, some (.cells cs)⟩)])
  | d => (d, [])
def adLO (O : Nat → Ob) (t : Nat) : List D → List D × List (Nat × Ob)
  | [] => ([], [])
  | d :: ds => ((ad1O O t d).1 :: (adLO O (t + 1000) ds).1, (ad1O O t d).2 ++ (adLO O (t + 1000) ds).2)
def adTO (O : Nat → Ob) (t : Nat) (ds : List D) : List D × List (Nat × Ob) :=
  match ds with
  | .agg cs :: ds => (.agg (adLO O (t + 500) cs).1 :: (adLO O (t + 1000) ds).1, (adLO O (t + 500) cs).2 ++ (adLO O (t + 1000) ds).2)
  | ds => adLO O t ds
def adO (O : Nat → Ob) (t : Nat) (d : D) : D × List (Nat × Ob) :=
  match d with
  | .tup ds => (.tup (adTO O t ds).1, (adTO O t ds).2)
  | .agg cs => (.agg (adLO O (t + 500) cs).1, (adLO O (t + 500) cs).2)
  | d => ad1O O t d
def outO (s : St) (outs : Option (List D)) (own : List Nat) : List (Nat × Ob) :=
  match outs, own with
  | some cs, [o] => [(o, ⟨(s.ob o).sh, some (.cells cs)⟩)]
  | _, _ => []

section
variable {C : Ctx} {s σ : St}
theorem lays_append (s : St) (a b : List (Nat × Ob)) : s.lays (a ++ b) = (s.lays a).lays b := by
  induction a generalizing s with
  | nil => rfl
  | cons x a ih => obtain ⟨o, ob⟩ := x; exact ih _
theorem lays_ob (s : St) (l : List (Nat × Ob)) (x : Nat) (h : ∀ p ∈ l, p.1 ≠ x) : (s.lays l).ob x = s.ob x := by
  induction l generalizing s with
  | nil => rfl
  | cons p l ih =>
    obtain ⟨o, ob⟩ := p
    show ((s.lay o ob).lays l).ob x = _
    rw [ih _ (fun p hp => h p (by simp [hp])), St.ob_lay, if_neg (fun e => h (o, ob) (by simp) e.symm)]
theorem lays_dk (s : St) (l : List (Nat × Ob)) : (s.lays l).dk = s.dk := by
  induction l generalizing s with
  | nil => rfl
  | cons p l ih => obtain ⟨o, ob⟩ := p; exact ih _
theorem lays_slot (s : St) (l : List (Nat × Ob)) (t : Nat) : (s.lays l).slot t = s.slot t := by
  induction l generalizing s with
  | nil => rfl
  | cons p l ih => obtain ⟨o, ob⟩ := p; exact ih _
theorem ad1O_eq (s : St) (t : Nat) (d : D) : adopt1 s t d = ((ad1O s.ob t d).1, s.lays (ad1O s.ob t d).2) := by cases d <;> rfl
theorem ad1O_names (O : Nat → Ob) (t : Nat) (d : D) : ∀ p ∈ (ad1O O t d).2, p.1 = t := by
  intro p hp
  cases d <;> simp [ad1O] at hp <;> simp [hp]
theorem ad1O_loc {O O' : Nat → Ob} (t : Nat) (d : D) (h : ∀ p ∈ (ad1O O t d).2, (O' p.1).sh.gen = (O p.1).sh.gen) : ad1O O' t d = ad1O O t d := by
  cases d <;> first | rfl | (simp only [ad1O] at h ⊢; have := h _ (List.mem_singleton.2 rfl); simp only at this; rw [this])
theorem adLO_names (O : Nat → Ob) : ∀ (ds : List D) (t : Nat), ∀ p ∈ (adLO O t ds).2, t ≤ p.1
  | [], t => by intro p hp; cases hp
  | d :: ds, t => by
    intro p hp
    simp only [adLO, List.mem_append] at hp
    rcases hp with hp | hp
    · have := ad1O_names O t d p hp; omega
    · have := adLO_names O ds (t + 1000) p hp; omega
theorem adLO_loc {O O' : Nat → Ob} : ∀ (ds : List D) (t : Nat), (∀ p ∈ (adLO O t ds).2, (O' p.1).sh.gen = (O p.1).sh.gen) → adLO O' t ds = adLO O t ds
  | [], t, _ => rfl
  | d :: ds, t, h => by
    simp only [adLO] at h ⊢
    rw [ad1O_loc t d (fun p hp => h p (List.mem_append_left _ hp)), adLO_loc ds (t + 1000) (fun p hp => h p (List.mem_append_right _ hp))]
theorem adLO_eq : ∀ (ds : List D) (s : St) (t : Nat), adoptL s t ds = ((adLO s.ob t ds).1, s.lays (adLO s.ob t ds).2)
  | [], s, t => rfl
  | d :: ds, s, t => by
    simp only [adoptL, adLO]
    rw [ad1O_eq]
    simp only
    rw [adLO_eq ds (s.lays (ad1O s.ob t d).2) (t + 1000), lays_append]
    have : adLO (s.lays (ad1O s.ob t d).2).ob (t + 1000) ds = adLO s.ob (t + 1000) ds := adLO_loc ds (t + 1000) (fun p hp => congrArg (fun b => b.sh.gen) (lays_ob s _ _ (fun q hq => by
      have h1 := adLO_names s.ob ds (t + 1000) p hp
      have h2 := ad1O_names s.ob t d q hq
      omega)))
    rw [this]
theorem adLO_mod (O : Nat → Ob) : ∀ (ds : List D) (t : Nat), ∀ p ∈ (adLO O t ds).2, p.1 % 1000 = t % 1000
  | [], t => by intro p hp; cases hp
  | d :: ds, t => by
    intro p hp
    simp only [adLO, List.mem_append] at hp
    rcases hp with hp | hp
    · rw [ad1O_names O t d p hp]
    · have := adLO_mod O ds (t + 1000) p hp; omega
theorem adTO_or (ds : List D) : (∃ cs r, ds = .agg cs :: r) ∨ ((∀ s t, adoptT s t ds = adoptL s t ds) ∧ ∀ O t, adTO O t ds = adLO O t ds) := by
  rcases ds with _ | ⟨d, r⟩
  · exact .inr ⟨fun _ _ => rfl, fun _ _ => rfl⟩
  · cases d <;> first | exact .inl ⟨_, _, rfl⟩ | exact .inr ⟨fun _ _ => rfl, fun _ _ => rfl⟩
theorem adTO_eq (ds : List D) (s : St) (t : Nat) : adoptT s t ds = ((adTO s.ob t ds).1, s.lays (adTO s.ob t ds).2) := by
  rcases adTO_or ds with ⟨cs, r, rfl⟩ | ⟨h1, h2⟩
  · simp only [adoptT, adTO]
    rw [adLO_eq cs s (t + 500)]
    simp only
    rw [adLO_eq r (s.lays (adLO s.ob (t + 500) cs).2) (t + 1000), lays_append]
    have : adLO (s.lays (adLO s.ob (t + 500) cs).2).ob (t + 1000) r = adLO s.ob (t + 1000) r := adLO_loc r (t + 1000) (fun p hp => congrArg (fun b => b.sh.gen) (lays_ob s _ _ (fun q hq => by
      have h1 := adLO_mod s.ob r (t + 1000) p hp
      have h2 := adLO_mod s.ob cs (t + 500) q hq
      omega)))
    rw [this]
  · rw [h1, h2]; exact adLO_eq ds s t
theorem adTO_loc {O O' : Nat → Ob} (ds : List D) (t : Nat) (h : ∀ p ∈ (adTO O t ds).2, (O' p.1).sh.gen = (O p.1).sh.gen) : adTO O' t ds = adTO O t ds := by
  rcases adTO_or ds with ⟨cs, r, rfl⟩ | ⟨h1, h2⟩
  · simp only [adTO] at h ⊢
    rw [adLO_loc cs (t + 500) (fun p hp => h p (List.mem_append_left _ hp)), adLO_loc r (t + 1000) (fun p hp => h p (List.mem_append_right _ hp))]
  · rw [h2] at h; rw [h2, h2]; exact adLO_loc ds t h
theorem tup_or (d : D) : (∃ ds, d = .tup ds) ∨ (∃ cs, d = .agg cs) ∨ ((∀ s t, adopt s t d = adopt1 s t d) ∧ ∀ O t, adO O t d = ad1O O t d) := by
  cases d <;> first | exact .inr (.inr ⟨fun _ _ => rfl, fun _ _ => rfl⟩) | exact .inl ⟨_, rfl⟩ | exact .inr (.inl ⟨_, rfl⟩)
theorem adO_eq (s : St) (t : Nat) (d : D) : adopt s t d = ((adO s.ob t d).1, s.lays (adO s.ob t d).2) := by
  rcases tup_or d with ⟨ds, rfl⟩ | ⟨cs, rfl⟩ | ⟨h1, h2⟩
  · simp only [adopt, adO, adTO_eq]
  · simp only [adopt, adO, adLO_eq]
  · rw [h1, h2]; exact ad1O_eq s t d
theorem adO_loc {O O' : Nat → Ob} (t : Nat) (d : D) (h : ∀ p ∈ (adO O t d).2, (O' p.1).sh.gen = (O p.1).sh.gen) : adO O' t d = adO O t d := by
  rcases tup_or d with ⟨ds, rfl⟩ | ⟨cs, rfl⟩ | ⟨h1, h2⟩
  · simp only [adO] at h ⊢; rw [adTO_loc ds t h]
  · simp only [adO] at h ⊢; rw [adLO_loc cs (t + 500) h]
  · rw [h2] at h; rw [h2, h2]; exact ad1O_loc t d h
theorem outO_sh (s : St) (outs : Option (List D)) (own : List Nat) (x : Nat) : ((s.lays (outO s outs own)).ob x).sh = (s.ob x).sh := by
  unfold outO
  rcases outs with _ | cs
  · rfl
  · rcases own with _ | ⟨o, _ | ⟨o', own⟩⟩
    · rfl
    · show ((s.lay o _).ob x).sh = _
      rw [St.ob_lay]
      split
      · rename_i e; subst e; rfl
      · rfl
    · rfl
theorem outO_eq (s : St) (outs : Option (List D)) (own : List Nat) : outS s outs own = s.lays (outO s outs own) := by
  unfold outS outO
  rcases outs with _ | cs
  · rfl
  · rcases own with _ | ⟨o, _ | ⟨o', own⟩⟩ <;> rfl
theorem Mat.loc {d d' : D} {own fro : List Nat} (h : Mat s d d' own fro) : (∀ o ∈ own ++ fro, σ.ob o = s.ob o) → Mat σ d d' own fro := by
  induction h with
  | plain d h => intro _; exact .plain d h
  | bot d => intro _; exact .bot d
  | nil_b => intro _; exact .nil_b
  | nil_rb => intro _; exact .nil_rb
  | nil_s e => intro _; exact .nil_s e
  | nil_rs e => intro _; exact .nil_rs e
  | sl_b o g off len l ho hg he => intro h; have e := h o (by simp); exact .sl_b o g off len l (by rw [e]; exact ho) (by unfold St.sh; rw [e]; exact hg) (by unfold St.sh; rw [e]; exact he)
  | sl_rb o g off len l ho hg he => intro h; have e := h o (by simp); exact .sl_rb o g off len l (by rw [e]; exact ho) (by unfold St.sh; rw [e]; exact hg) (by unfold St.sh; rw [e]; exact he)
  | sl_s o g off len e cs cs' own fro ho hg he h0 hsc hm ih => intro h; have q := h o (by simp); exact .sl_s o g off len e cs cs' own fro (by rw [q]; exact ho) (by unfold St.sh; rw [q]; exact hg) (by unfold St.sh; rw [q]; exact he) h0 hsc (ih fun x hx => h x (by simp at hx ⊢; rcases hx with hx | hx <;> simp [hx]))
  | sl_rs o g off len e cs cs' fro ho hg he h0 hsc hm ih => intro h; have q := h o (by simp); exact .sl_rs o g off len e cs cs' fro (by rw [q]; exact ho) (by unfold St.sh; rw [q]; exact hg) (by unfold St.sh; rw [q]; exact he) h0 hsc (ih fun x hx => h x (by simp at hx ⊢; simp [hx]))
  | sl_f o g len e cs ho hg he h0 hl hf => intro h; have q := h o (by simp); exact .sl_f o g len e cs (by rw [q]; exact ho) (by unfold St.sh; rw [q]; exact hg) (by unfold St.sh; rw [q]; exact he) h0 hl hf
  | ptr_f o g cs ho hg hf h0 => intro h; have q := h o (by simp); exact .ptr_f o g cs (by rw [q]; exact ho) (by unfold St.sh; rw [q]; exact hg) hf h0
  | ptr o g cs cs' own fro ho hg hsc h0 hm ih => intro h; have q := h o (by simp); exact .ptr o g cs cs' own fro (by rw [q]; exact ho) (by unfold St.sh; rw [q]; exact hg) hsc h0 (ih fun x hx => h x (by simp at hx ⊢; rcases hx with hx | hx <;> simp [hx]))
  | ptr_r o g cs cs' fro ho hg hsc h0 hm ih => intro h; have q := h o (by simp); exact .ptr_r o g cs cs' fro (by rw [q]; exact ho) (by unfold St.sh; rw [q]; exact hg) hsc h0 (ih fun x hx => h x (by simp at hx ⊢; simp [hx]))
  | agg cs cs' own fro hm ih => intro h; exact .agg cs cs' own fro (ih h)
  | tnil => intro _; exact .tnil
  | tcons d d' ds ds' o1 o2 f1 f2 hm hms ih ihs => intro h; exact .tcons d d' ds ds' o1 o2 f1 f2 (ih fun x hx => h x (by simp at hx ⊢; rcases hx with hx | hx <;> simp [hx])) (ihs fun x hx => h x (by simp at hx ⊢; rcases hx with hx | hx <;> simp [hx]))
  | tall ds h => intro _; exact .tall ds h
  | cnv d d1 d2 own fro hm hc ih => intro h; exact .cnv d d1 d2 own fro (ih h) hc
  | tapp a a' b b' o1 o2 f1 f2 hm hms ih ihs => intro h; exact .tapp a a' b b' o1 o2 f1 f2 (ih fun x hx => h x (by simp at hx ⊢; rcases hx with hx | hx <;> simp [hx])) (ihs fun x hx => h x (by simp at hx ⊢; rcases hx with hx | hx <;> simp [hx]))

/-- A function that is called as it stands in the program. -/
def fnOk (P : Program) (f : Nat) : Prop := ∃ fn, P.funcs[f]? = some fn ∧ (fn.name == "runtime.NumGoroutine") = false ∧ fn.body.isNone = false
theorem run_callf {P : Program} {w : World} {f : Nat} (h : fnOk P f) (args : Array Value) : (callFunc f args).run P w = .ok (.enter f args) w := by
  obtain ⟨fn, h1, h2, h3⟩ := h
  have h2' : ¬ fn.name = "runtime.NumGoroutine" := by simpa using h2
  have h3' : ¬ fn.body = none := by intro e; rw [e] at h3; cases h3
  simp [callFunc, h1, h2', h3']
/-- The conditions on a call's receiver. -/
def RcvOk (s : St) (outs : Option (List D)) (own : List Nat) (ds : List D) : Prop :=
  match outs with
  | none => own = []
  | some cs => ∃ o g ds', own = [o] ∧ ds = .ptr o g 0 :: ds' ∧ g = (s.ob o).sh.gen ∧ (s.ob o).ct.isSome = true ∧ cs.all D.fr0 = true ∧ 0 < cs.length ∧ (s.ob o).sh.clen = cs.length

theorem eff_call {P : Program} {G : Nat → Option D} {dst : Option Tmp} {ty : TypeId} {pos : String} {after : Array Edge} {gd : Option (Nat × Bool)} {fo : Operand} {xs : List Operand} {ts : Array TypeId} {f : Nat} (hf : ev C s fo = .fn f) (hok : fnOk P f)
    {ins : List D} {res : D} {outs : Option (List D)} (fc : FC P G f ins res outs) (hP : C.P = P) (hG : C.G = G) {own fro : List Nat} (hm : Mat s (.tup (xs.map (ev C s))) (.tup ins) own fro) (hnd : own.Nodup) (hdis : ∀ o ∈ own, o ∉ fro)
    (hnr : fro = [] ∨ (res.nr = true ∧ ∀ cs, outs = some cs → cs.all D.nr0 = true)) (had : res.ad = true) (hout : RcvOk s outs own (xs.map (ev C s))) (hd : dstOk C.n dst) :
    Eff C ⟨dst, .call { callee := .value fo, args := xs.toArray, argTypes := ts }, ty, pos, after, gd⟩ s (adO s.ob (dst.getD 0) res).1 (outO s outs own ++ (adO s.ob (dst.getD 0) res).2) (opT fo ++ xs.flatMap opT) (own ++ fro ++ (adO s.ob (dst.getD 0) res).2.map (·.1)) := by
  subst hP hG
  intro σ hT hR K Q a w hrep hK
  obtain ⟨h1, h2, ρ, S, Φ, h3, h4⟩ := hrep
  have hfv : a.eval fo = .func (.func f) #[] #[] := by
    have := ev_rv h3 h4 fo
    rw [ev_same (C := C) (fun t ht => hT t (List.mem_append_left _ ht)), hf] at this
    generalize a.eval fo = v at this
    cases this
    rfl
  have hxs : xs.map (ev C σ) = xs.map (ev C s) := List.map_congr_left fun x hx => ev_same fun t ht => hT t (List.mem_append_right _ (List.mem_flatMap.2 ⟨x, hx, ht⟩))
  have hpr : PR w S ρ σ.sh (xs.map (ev C σ)) (xs.map a.eval) := ⟨by simp, fun i c u p1 p2 => by
    rw [List.getElem?_map] at p1 p2
    rcases hx : xs[i]? with _ | x
    · rw [hx] at p1; cases p1
    · rw [hx] at p1 p2
      injection p1 with p1
      injection p2 with p2
      subst p1; subst p2
      exact ev_rv h3 h4 x⟩
  rw [hxs] at hpr
  have hsame : ∀ o ∈ own ++ fro, σ.ob o = s.ob o := fun o ho => hR o (by simp at ho ⊢; rcases ho with ho | ho <;> simp [ho])
  have hm' := hm.loc hsame
  have hout' : match outs with | none => own = [] | some cs => ∃ o g ds', own = [o] ∧ xs.map (ev C s) = .ptr o g 0 :: ds' ∧ g = (σ.sh o).gen ∧ (σ.ob o).ct.isSome = true ∧ cs.all D.fr0 = true ∧ 0 < cs.length ∧ (σ.sh o).clen = cs.length := by
    unfold RcvOk at hout
    rcases outs with _ | cs
    · exact hout
    · obtain ⟨o, g, ds', q1, q2, q3, q4, q5, q6, q7⟩ := hout
      have e := hsame o (by rw [q1]; simp)
      exact ⟨o, g, ds', q1, q2, by unfold St.sh; rw [e]; exact q3, by rw [e]; exact q4, q5, q6, by unfold St.sh; rw [e]; exact q7⟩
  have hcall := call_ok h3 fc hpr hm' hnd hdis hnr had (by cases outs <;> exact hout') (dst.getD 0)
  have hoo : outO σ outs own = outO s outs own := by
    unfold outO
    split
    · rw [hsame _ (by simp)]
    · rfl
  have hadO : adO (σ.lays (outO s outs own)).ob (dst.getD 0) res = adO s.ob (dst.getD 0) res := adO_loc _ _ fun p hp => by
    rw [← hoo, outO_sh, hR p.1 (by simp; exact .inr (.inr ⟨_, hp⟩))]
  unfold Oper.wp
  have hrun : (execOp a.eval ⟨dst, .call { callee := .value fo, args := xs.toArray, argTypes := ts }, ty, pos, after, gd⟩).run C.P w = .ok (.enter f (xs.map a.eval).toArray) w := by
    simp only [execOp, resolve, Sem.run_bind]
    simp [Deferred.ofValue, hfv, invoke, run_callf hok]
  rw [hrun]
  show Calls _ _ _ _ _
  refine hcall.mono ?_
  rintro e w' ⟨v, ρ', S', Φ', rfl, k1, k2, k3⟩
  rw [outO_eq, adO_eq, hoo, hadO] at k1 k2 k3
  simp only [← lays_append] at k1 k2 k3
  exact hK _ _ (rep_put (s' := σ.lays (outO s outs own ++ (adO s.ob (dst.getD 0) res).2)) (by rw [lays_dk]; exact h1) h2 k1 (fun t => by rw [lays_slot]; exact k2 _ _ (h4 t)) dst hd _ v k3)
end
end Go.Proofs.YtabkpoklihkifaaDoor
