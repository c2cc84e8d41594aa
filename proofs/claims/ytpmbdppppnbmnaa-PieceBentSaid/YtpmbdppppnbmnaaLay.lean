/- Operations that lay new memory: boxes, literals, make, bytes of a string. Over any program. -/
import Derived.Test.YtpmbdppppnbmnaaNum
namespace Go.Proofs.Ytpmbdppppnbmnaa
open Go Go.RowKit
set_option linter.unusedVariables false
set_option linter.unusedSimpArgs false

/-- An operation's outcome: a value that reads as d, in a world that stands for s'. -/
def Outc (C : Ctx) (s : St) (S : Nat → Prop) (ρ : Nat → Pl) (w : World) (r : Result Value) (s' : St) (d : D) : Prop :=
  ∃ v w' ρ' Φ', r = .ok v w' ∧ RepW C s' ρ' S Φ' w' ∧ (∀ d v, RV w S ρ s.sh d v [] → RV w' S ρ' s'.sh d v []) ∧ RV w' S ρ' s'.sh d v []

/-- The cells of a value. -/
def D.cells : D → List D
  | .aggb l => l.map D.u8
  | .agg cs => cs
  | d => [d]
def D.isAgg : D → Bool
  | .aggb _ | .agg _ => true
  | _ => false
/-- What a box of a value holds. -/
def boxC : D → Option Cont
  | .aggb l => some (.bytes l)
  | .agg cs => if cs.all D.sc then some (.cells cs) else none
  | .u8 x => some (.bytes [x])
  | d => if d.sc then some (.cells [d]) else none
/-- How many cells an element of a box of this type has. -/
def eszOf (Ti : Nat → TI) (t : TypeId) : Nat :=
  match (Ti t).ty with
  | .arr _ e => (Ti e).sz
  | _ => 1
def ctOf (ba : Bool) (cs : List D) : Cont := if ba then .bytes (cs.map D.toU8) else .cells cs
/-- The next making of an object. -/
def St.nxt (s : St) (o esz : Nat) (c : Cont) : Ob := ⟨⟨(s.sh o).gen + 1, esz, c.len⟩, some c⟩
def St.lay1 (s : St) (o esz : Nat) (c : Cont) : St := s.lay o (s.nxt o esz c)

section
variable {C : Ctx} {s : St} {ρ : Nat → Pl} {S : Nat → Prop} {Φ : Nat → List Nat} {w w' : World}

/-- Cells that stand for some content. -/
def Fits (w : World) (S : Nat → Prop) (ρ : Nat → Pl) (H : Nat → Sh) (cur : Array Value) : Cont → Prop
  | .bytes l => ∀ i, i < l.length → cur[i]? = some (u8 (gb l i))
  | .cells cs => ∀ (i : Nat) (c : D) (u : Value), cs[i]? = some c → cur[i]? = some u → RV w S ρ H c u []

theorem lay_new (h : RepW C s ρ S Φ w) (o esz : Nat) (c : Cont) (cur : Array Value) (E : TypeId) (fz : Nat × Nat) (hos : w'.os = w.os) (htape : w'.tape = w.tape) (hout : w'.output = w.output)
    (hsz : w'.heap.size = w.heap.size + 1) (hnew : w'.heap[w.heap.size]? = some (.cells cur E fz)) (hold : ∀ b, b < w.heap.size → w'.heap[b]? = w.heap[b]?) (hz : Loose fz cur.size) (hlen : c.len ≤ cur.size)
    (hc : Fits w S ρ s.sh cur c) :
    ∃ ρ' Φ', ρ' = upd ρ o ⟨w.heap.size, 0, cur.size⟩ ∧ RepW C (s.lay1 o esz c) ρ' S Φ' w' ∧ ∀ d v, RV w S ρ s.sh d v [] → RV w' S ρ' (s.lay1 o esz c).sh d v [] := by
  have hnS : ¬ S w.heap.size := fun e => by have := (h.s1 _ e).1; omega
  have hwS : ∀ b, S b → w'.heap[b]? = w.heap[b]? := fun b hb => hold b (h.s1 b hb).1
  have hmono : ∀ d v, RV w S ρ s.sh d v [] → RV w' S (upd ρ o ⟨w.heap.size, 0, cur.size⟩) (upd s.sh o (s.nxt o esz c).sh) d v [] := fun d v hr => by
    refine hr.mono (fun _ h => h) hwS (fun x => ?_) (by simp)
    by_cases hx : x = o
    · subst hx
      rw [upd_same, upd_same]
      refine ⟨by simp [St.nxt], fun e => ?_⟩
      simp [St.nxt] at e
    · rw [upd_other _ _ _ hx, upd_other _ _ _ hx]
      exact ⟨Nat.le_refl _, fun _ => ⟨rfl, rfl⟩⟩
  refine ⟨_, _, rfl, h.one o (s.nxt o esz c) ⟨w.heap.size, 0, cur.size⟩ [w.heap.size] hos htape hout (by omega) (Szs.same hold) (.inl (by simp [St.nxt])) (fun b hb _ => hold b hb) ?_ ?_⟩
  · intro c' hc'
    have e : c = c' := by simpa [St.nxt] using hc'
    subst e
    cases c with
    | bytes l => exact ⟨rfl, .inr ⟨cur, E, fz, [], hnew, hz, rfl, by simpa using hlen, rfl, rfl, fun i hi => by rw [Nat.zero_add]; exact hc i hi⟩⟩
    | cells cs =>
      refine ⟨rfl, .inr ⟨cur, E, fz, List.replicate cs.length [], hnew, hz, rfl, by simpa using hlen, by rw [flat_nil], by simp, fun i c u f h1 h2 h3 => ?_⟩⟩
      rw [List.getElem?_replicate] at h3
      split at h3
      · injection h3 with h3
        subst h3
        rw [Nat.zero_add] at h2
        exact hmono c u (hc i c u h1 h2)
      · cases h3
  · intro _
    refine ⟨by simp, fun b hb => ?_⟩
    obtain rfl : b = w.heap.size := by simpa using hb
    refine ⟨hnS, by omega, .inl h.size, fun e => by have := (Array.getElem?_eq_some_iff.1 (h.dk _ e)).1; omega, fun o' c' ho hc' hm => ?_⟩
    have := ((h.own o' c' hc').2 _ hm).2.1
    omega
theorem lay_ptr (o esz : Nat) (c : Cont) (p : Pl) (off : Nat) {S : Nat → Prop} {w : World} {ρ : Nat → Pl} : RV w S (upd ρ o p) (s.lay1 o esz c).sh (.ptr o ((s.sh o).gen + 1) off) (.pointer (some ⟨p.blk, p.base + off, none⟩)) [] := by
  have e : (s.lay1 o esz c).sh o = ⟨(s.sh o).gen + 1, esz, c.len⟩ := by
    unfold St.lay1
    rw [St.sh_lay, upd_same]
    rfl
  refine .ptr _ _ _ _ rfl (by rw [e]; exact Nat.le_refl _) (fun _ => by rw [upd_same])
theorem lay_sl (o esz : Nat) (c : Cont) (p : Pl) (n cap : Nat) {S : Nat → Prop} {w : World} {ρ : Nat → Pl} (hn : n ≤ cap) (hm : cap ≤ maxLen) (h1 : n * esz ≤ c.len) (h2 : p.base + cap * esz ≤ p.size) :
    RV w S (upd ρ o p) (s.lay1 o esz c).sh (.sl o ((s.sh o).gen + 1) 0 n) (.slice (some ⟨p.blk, p.base, none⟩) n cap) [] := by
  have e : (s.lay1 o esz c).sh o = ⟨(s.sh o).gen + 1, esz, c.len⟩ := by
    unfold St.lay1
    rw [St.sh_lay, upd_same]
    rfl
  refine .sl _ _ _ _ _ rfl (by rw [e]; exact Nat.le_refl _) (fun _ => ⟨_, _, rfl, hn, hm, by rw [e]; simpa using h1, .inr ⟨by rw [upd_same, Nat.add_zero], by rw [upd_same, e]; simpa using h2⟩⟩)

theorem boxC_fits {d : D} {c : Cont} (e : boxC d = some c) {v : Value} {H : Nat → Sh} (hr : RV w S ρ H d v []) : Fits w S ρ H v.cells c ∧ c.len = v.cells.size := by
  unfold boxC at e
  split at e
  · injection e with e; subst e
    rename_i l
    obtain rfl := inv_aggb hr
    refine ⟨fun i hi => ?_, by simp [Cont.len, Value.cells, u8s]⟩
    show (u8s l).toArray[i]? = _
    rw [List.getElem?_toArray, u8s_get, gb_of hi]
    rfl
  · split at e
    · injection e with e; subst e
      obtain ⟨vs, rfl, hl, hr⟩ := inv_agg hr
      refine ⟨fun i c u h1 h2 => hr i c u h1 ?_, by simp [Cont.len, Value.cells, hl]⟩
      have h3 : vs.toArray[i]? = some u := h2
      rwa [List.getElem?_toArray] at h3
    · cases e
  · injection e with e; subst e
    rename_i x
    obtain rfl := inv_u8 hr
    refine ⟨fun i hi => ?_, rfl⟩
    have : i = 0 := by simpa using hi
    subst this
    rfl
  · rename_i d' _ _ _
    split at e
    · rename_i hsc
      injection e with e; subst e
      have h1 := (hr.one_ hsc).2
      have hcv : v.cells = #[v] := by cases v <;> first | rfl | (simp [Value.oneCell'] at h1)
      refine ⟨fun i c u h1 h2 => ?_, by simp [Cont.len, hcv]⟩
      rw [hcv] at h2
      rcases i with _ | i
      · injection h1 with h1
        subst h1
        have : v = u := by simpa using h2
        subst this
        exact hr
      · simp at h1
    · cases e
theorem box_ok (h : RepW C s ρ S Φ w) (o : Nat) {t : TypeId} {d : D} {c : Cont} (e : boxC d = some c) {v : Value} (hr : RV w S ρ s.sh d v []) (esz : Nat) :
    Outc C s S ρ w ((Instr.box t v).run C.P w) (s.lay1 o esz c) (.ptr o ((s.sh o).gen + 1) 0) := by
  obtain ⟨h1, h2⟩ := boxC_fits e hr
  obtain ⟨ρ', Φ', rfl, hw, hm⟩ := lay_new (w' := w.alloc (.cells v.cells t)) h o esz c v.cells t (0, 0) rfl rfl rfl (by simp) (heap_alloc_new w _) (fun b hb => Below.heap_alloc w _ b hb) (Loose.zero _) (Nat.le_of_eq h2) h1
  refine ⟨.pointer (some ⟨w.heap.size, 0 + 0, none⟩), w.alloc (.cells v.cells t), _, Φ', ?_, hw, hm, lay_ptr o esz c _ 0⟩
  simp [Instr.box, newVar, newRow]
theorem alloc_ok (h : RepW C s ρ S Φ w) (o : Nat) {t : TypeId} {c : Cont} (e : boxC (tiOf C.P t).zero = some c) (esz : Nat) :
    Outc C s S ρ w ((Instr.alloc t true (.tuple #[])).run C.P w) (s.lay1 o esz c) (.ptr o ((s.sh o).gen + 1) 0) := by
  have hne : (tiOf C.P t).zero ≠ .bot := fun hb => by rw [hb] at e; cases e
  obtain ⟨i, z, hi, _, _, hz, hzv⟩ := ti_zero hne
  have hr : RV w S ρ s.sh (tiOf C.P t).zero z [] := by rw [← hzv]; exact ofVal_ok z
  obtain ⟨v, w', ρ', Φ', h1, h2⟩ := box_ok h o (t := t) e hr esz
  refine ⟨v, w', ρ', Φ', ?_, h2⟩
  rw [← h1]
  simp [Instr.alloc, zeroValue, typeInfo, hi, hz, Instr.box]
end
end Go.Proofs.Ytpmbdppppnbmnaa
