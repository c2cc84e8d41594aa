/- The abstract state of a call (slots and objects), and how a frame and a world stand for one. Over any program. -/
import Derived.Test.YtpmbdppppnbmnaaVal
namespace Go.Proofs.Ytpmbdppppnbmnaa
open Go Go.RowKit
set_option linter.unusedVariables false
set_option linter.unusedSimpArgs false

inductive Cont where
  | bytes (l : List UInt8)
  | cells (cs : List D)
def Cont.len : Cont → Nat
  | .bytes l => l.length
  | .cells cs => cs.length
structure Ob where
  sh : Sh
  ct : Option Cont
def Ob.no : Ob := ⟨⟨0, 0, 0⟩, none⟩

def look {α : Type} (d : α) : List (Nat × α) → Nat → α
  | [], _ => d
  | (k, v) :: r, t => if k = t then v else look d r t

structure St where
  sl : List (Nat × D)
  hp : List (Nat × Ob)
  /-- the block for what rounds of a range over a function defer -/
  dk : List Nat := []
def St.slot (s : St) (t : Nat) : D := look .bot s.sl t
def St.ob (s : St) (o : Nat) : Ob := look .no s.hp o
def St.sh (s : St) (o : Nat) : Sh := (s.ob o).sh
/-- A slot is written. -/
def St.put (s : St) (t : Nat) (d : D) : St := { s with sl := (t, d) :: s.sl }
def St.puto (s : St) (t : Option Nat) (d : D) : St :=
  match t with
  | some t => s.put t d
  | none => s
/-- An object is laid. -/
def St.lay (s : St) (o : Nat) (ob : Ob) : St := { s with hp := (o, ob) :: s.hp }

def upd {α : Type} (f : Nat → α) (a : Nat) (v : α) : Nat → α := fun x => if x = a then v else f x
theorem upd_same {α : Type} (f : Nat → α) (a : Nat) (v : α) : upd f a v a = v := if_pos rfl
theorem upd_other {α : Type} (f : Nat → α) (a : Nat) (v : α) {x : Nat} (h : x ≠ a) : upd f a v x = f x := if_neg h
theorem St.ob_lay (s : St) (o : Nat) (ob : Ob) (x : Nat) : (s.lay o ob).ob x = if x = o then ob else s.ob x := by
  by_cases h : x = o
  · subst h; simp [St.ob, St.lay, look]
  · rw [if_neg h]
    show look .no ((o, ob) :: s.hp) x = _
    rw [look, if_neg (fun e => h e.symm)]
    rfl
theorem St.sh_lay (s : St) (o : Nat) (ob : Ob) : (s.lay o ob).sh = upd s.sh o ob.sh := by
  funext x
  unfold St.sh upd
  rw [St.ob_lay]
  split <;> rfl
theorem St.slot_lay (s : St) (o : Nat) (ob : Ob) (t : Nat) : (s.lay o ob).slot t = s.slot t := rfl
theorem St.ob_put (s : St) (t : Nat) (d : D) (x : Nat) : (s.put t d).ob x = s.ob x := rfl
theorem St.sh_put (s : St) (t : Nat) (d : D) : (s.put t d).sh = s.sh := rfl
theorem St.slot_put (s : St) (t : Nat) (d : D) (x : Nat) : (s.put t d).slot x = if x = t then d else s.slot x := by
  by_cases h : x = t
  · subst h; simp [St.slot, St.put, look]
  · rw [if_neg h]
    show look .bot ((t, d) :: s.sl) x = _
    rw [look, if_neg (fun e => h e.symm)]
    rfl

/-- What a row holds. -/
def CtR (w : World) (S : Nat → Prop) (ρ : Nat → Pl) (H : Nat → Sh) (base : Nat) (cur : Array Value) (Fs : List (List Nat)) : Cont → Prop
  | .bytes l => Fs = [] ∧ ∀ i, i < l.length → cur[base + i]? = some (u8 (gb l i))
  | .cells cs => Fs.length = cs.length ∧ ∀ (i : Nat) (c : D) (u : Value) (f : List Nat), cs[i]? = some c → cur[base + i]? = some u → Fs[i]? = some f → RV w S ρ H c u f
/-- An object in memory. -/
def ObR (w : World) (S : Nat → Prop) (ρ : Nat → Pl) (H : Nat → Sh) (p : Pl) (h : Sh) (c : Cont) (F : List Nat) : Prop :=
  h.clen = c.len ∧ ((c.len = 0 ∧ F = [] ∧ p.size = 0) ∨
    ∃ cur E fz Fs, w.heap[p.blk]? = some (.cells cur E fz) ∧ Loose fz cur.size ∧ cur.size = p.size ∧ p.base + c.len ≤ p.size ∧ F = p.blk :: Fs.flatten ∧ CtR w S ρ H p.base cur Fs c)

theorem ObR.mono {w w' : World} {S S' : Nat → Prop} {ρ ρ' : Nat → Pl} {H H' : Nat → Sh} (hS : ∀ b, S b → S' b) (hw : ∀ b, S b → w'.heap[b]? = w.heap[b]?)
    (hH : ∀ o, (H o).gen ≤ (H' o).gen ∧ ((H' o).gen = (H o).gen → H' o = H o ∧ ρ' o = ρ o)) {p : Pl} {h : Sh} {c : Cont} {F : List Nat} (hr : ObR w S ρ H p h c F)
    (hF : ∀ b ∈ F, w'.heap[b]? = w.heap[b]?) : ObR w' S' ρ' H' p h c F := by
  obtain ⟨h1, h2⟩ := hr
  refine ⟨h1, ?_⟩
  rcases h2 with h2 | ⟨cur, E, fz, Fs, hh, hz, hs, hb, rfl, hc⟩
  · exact .inl h2
  · refine .inr ⟨cur, E, fz, Fs, (hF _ (by simp)).trans hh, hz, hs, hb, rfl, ?_⟩
    cases c with
    | bytes l => exact hc
    | cells cs =>
      refine ⟨hc.1, fun i c u f h1 h2 h3 => (hc.2 i c u f h1 h2 h3).mono hS hw hH (fun b hb => hF b (List.mem_cons_of_mem _ (mem_flat_of h3 hb)))⟩

/-- What stays as it is through a call: the program, the world at its beginning, the blocks that it may turn, those that are read only, the tables, how many slots. -/
structure Ctx where
  P : Program
  w0 : World
  M : List Nat
  S0 : Nat → Prop
  G : Nat → Option D
  gp : ∀ g cs, G g = some cs → cs.pf0 = true
  n : Nat
  /-- values that stay what they are: the receiver, where it is the call's own (the address of object 900); in a round of a range over a function, the slots -/
  keep : D → Value → Prop
  /-- the record of the range over a function, in a round of which the walk is -/
  rnd : Option Nat
def dfl (l : List Nat) : List Deferred := l.map fun r => { target := .collected r, args := #[] }

/-- Rows stay as long as they are. -/
def Szs (w w' : World) : Prop := ∀ (b : Nat) (cur : Array Value) (E : TypeId) (fz : Nat × Nat), w.heap[b]? = some (.cells cur E fz) → ∃ cur' E' fz', w'.heap[b]? = some (.cells cur' E' fz') ∧ cur'.size = cur.size
theorem Szs.refl (w : World) : Szs w w := by
  intro b cur E fz h
  exact ⟨cur, E, fz, h, rfl⟩
theorem Szs.trans {a b c : World} (h : Szs a b) (h' : Szs b c) : Szs a c := by
  intro x cur E fz hx
  obtain ⟨c1, E1, f1, h1, h2⟩ := h x cur E fz hx
  obtain ⟨c2, E2, f2, h3, h4⟩ := h' x c1 E1 f1 h1
  exact ⟨c2, E2, f2, h3, h4.trans h2⟩
theorem Szs.same {w w' : World} (h : ∀ b, b < w.heap.size → w'.heap[b]? = w.heap[b]?) : Szs w w' := by
  intro b cur E fz hb
  exact ⟨cur, E, fz, (h b (Array.getElem?_eq_some_iff.1 hb).1).trans hb, rfl⟩

/-- Blocks that are rows. -/
def SOk (w : World) (S : Nat → Prop) : Prop := ∀ b, S b → ∃ cur E fz, w.heap[b]? = some (.cells cur E fz)
theorem SOk.lt {w : World} {S : Nat → Prop} (h : SOk w S) {b : Nat} (hb : S b) : b < w.heap.size := by
  obtain ⟨_, _, _, e⟩ := h b hb
  exact (Array.getElem?_eq_some_iff.1 e).1
theorem SOk.same {w w' : World} {S : Nat → Prop} (h : SOk w S) (hw : ∀ b, S b → w'.heap[b]? = w.heap[b]?) : SOk w' S := fun b hb => by rw [hw b hb]; exact h b hb
structure RepW (C : Ctx) (s : St) (ρ : Nat → Pl) (S : Nat → Prop) (Φ : Nat → List Nat) (w : World) : Prop where
  os : w.os = C.w0.os
  tape : w.tape = C.w0.tape
  output : w.output = C.w0.output
  size : C.w0.heap.size ≤ w.heap.size
  szs : Szs C.w0 w
  fr : ∀ b, b < C.w0.heap.size → b ∉ C.M → w.heap[b]? = C.w0.heap[b]?
  s0 : ∀ b, C.S0 b → S b
  s1 : ∀ b, S b → b < w.heap.size ∧ (C.S0 b ∨ C.w0.heap.size ≤ b ∨ b ∈ C.M)
  sc : SOk w S
  gl : ∀ g cs, C.G g = some cs → RV w S ρ s.sh cs (.pointer (some ⟨g, 0, none⟩)) []
  ob : ∀ o c, (s.ob o).ct = some c → ObR w S ρ s.sh (ρ o) (s.sh o) c (Φ o)
  rv : ∀ d v, C.keep d v → RV w S ρ s.sh d v []
  dk : ∀ r ∈ s.dk, w.heap[r]? = some (.deferred (some []))
  dkn : s.dk.Nodup ∧ ∀ r ∈ s.dk, C.w0.heap.size ≤ r ∧ ¬ S r
  own : ∀ o c, (s.ob o).ct = some c → (Φ o).Nodup ∧ ∀ b ∈ Φ o, ¬ S b ∧ b < w.heap.size ∧ (C.w0.heap.size ≤ b ∨ b ∈ C.M) ∧ b ∉ s.dk
  dis : ∀ o o' c c', (s.ob o).ct = some c → (s.ob o').ct = some c' → o ≠ o' → ∀ b ∈ Φ o, b ∉ Φ o'

def Rep (C : Ctx) (s : St) (a : Act) (w : World) : Prop :=
  a.defers = dfl s.dk ∧ a.tmps.size = C.n ∧ ∃ ρ S Φ, RepW C s ρ S Φ w ∧ ∀ t, RV w S ρ s.sh (s.slot t) (a.tmps.getD t undef) []

section
variable {C : Ctx} {s : St} {ρ : Nat → Pl} {S : Nat → Prop} {Φ : Nat → List Nat} {w w' : World}

/-- One object turns, or is laid. -/
theorem RepW.one (h : RepW C s ρ S Φ w) (o0 : Nat) (ob : Ob) (p : Pl) (F : List Nat)
    (hos : w'.os = w.os) (htape : w'.tape = w.tape) (hout : w'.output = w.output) (hsz : w.heap.size ≤ w'.heap.size) (hszs : Szs w w')
    (hsh : (s.sh o0).gen < ob.sh.gen ∨ (ob.sh = s.sh o0 ∧ p = ρ o0))
    (hw : ∀ b, b < w.heap.size → ((s.ob o0).ct.isSome = true → b ∉ Φ o0) → w'.heap[b]? = w.heap[b]?)
    (hob : ∀ c, ob.ct = some c → ObR w' S (upd ρ o0 p) (upd s.sh o0 ob.sh) p ob.sh c F)
    (hF : ob.ct.isSome = true → F.Nodup ∧ ∀ b ∈ F, ¬ S b ∧ b < w'.heap.size ∧ (C.w0.heap.size ≤ b ∨ b ∈ C.M) ∧ b ∉ s.dk ∧ ∀ o c, o ≠ o0 → (s.ob o).ct = some c → b ∉ Φ o) :
    RepW C (s.lay o0 ob) (upd ρ o0 p) S (upd Φ o0 F) w' ∧ ∀ d v, RV w S ρ s.sh d v [] → RV w' S (upd ρ o0 p) (s.lay o0 ob).sh d v [] := by
  have hwS : ∀ b, S b → w'.heap[b]? = w.heap[b]? := fun b hb => hw b (h.s1 b hb).1 (fun hl hm => by
    obtain ⟨c, hc⟩ := Option.isSome_iff_exists.1 hl
    exact ((h.own o0 c hc).2 b hm).1 hb)
  have hH : ∀ o, (s.sh o).gen ≤ ((s.lay o0 ob).sh o).gen ∧ (((s.lay o0 ob).sh o).gen = (s.sh o).gen → (s.lay o0 ob).sh o = s.sh o ∧ upd ρ o0 p o = ρ o) := by
    intro o
    rw [St.sh_lay]
    by_cases ho : o = o0
    · subst ho
      rw [upd_same, upd_same]
      rcases hsh with h1 | ⟨h1, h2⟩
      · exact ⟨by omega, fun e => by omega⟩
      · rw [h1, h2]; exact ⟨Nat.le_refl _, fun _ => ⟨rfl, rfl⟩⟩
    · rw [upd_other _ _ _ ho, upd_other _ _ _ ho]
      exact ⟨Nat.le_refl _, fun _ => ⟨rfl, rfl⟩⟩
  have hoth : ∀ o c, o ≠ o0 → ((s.lay o0 ob).ob o).ct = some c → (s.ob o).ct = some c := fun o c ho hc => by
    rw [St.ob_lay, if_neg ho] at hc
    exact hc
  have hkeep : ∀ o c, o ≠ o0 → (s.ob o).ct = some c → ∀ b ∈ Φ o, w'.heap[b]? = w.heap[b]? := fun o c ho hc b hb =>
    hw b ((h.own o c hc).2 b hb).2.1 (fun hl => by
      obtain ⟨c0, hc0⟩ := Option.isSome_iff_exists.1 hl
      exact h.dis o o0 c c0 hc hc0 ho b hb)
  refine ⟨⟨hos.trans h.os, htape.trans h.tape, hout.trans h.output, Nat.le_trans h.size hsz, h.szs.trans hszs, ?_, h.s0, ?_, h.sc.same hwS, ?_, ?_, ?_, ?_, h.dkn, ?_, ?_⟩, fun d v hr => hr.mono (fun _ h => h) hwS hH (by simp)⟩
  · intro b hb hM
    refine (hw b (Nat.lt_of_lt_of_le hb h.size) (fun hl hm => ?_)).trans (h.fr b hb hM)
    obtain ⟨c, hc⟩ := Option.isSome_iff_exists.1 hl
    rcases ((h.own o0 c hc).2 b hm).2.2.1 with h1 | h1
    · omega
    · exact hM h1
  · intro b hb
    exact ⟨Nat.lt_of_lt_of_le (h.s1 b hb).1 hsz, (h.s1 b hb).2⟩
  · intro g cs hg
    exact (h.gl g cs hg).mono (fun _ h => h) hwS hH (by simp)
  · intro o c hc
    by_cases ho : o = o0
    · subst ho
      rw [St.ob_lay, if_pos rfl] at hc
      rw [St.sh_lay, upd_same, upd_same, upd_same]
      exact hob c hc
    · have hc' := hoth o c ho hc
      have := (h.ob o c hc').mono (fun _ h => h) hwS hH (hkeep o c ho hc')
      have e : (s.lay o0 ob).sh o = s.sh o := by rw [St.sh_lay, upd_other _ _ _ ho]
      rw [upd_other _ _ _ ho, upd_other _ _ _ ho, e]
      exact this
  · intro d v hv
    exact (h.rv d v hv).mono (fun _ h => h) hwS hH (by simp)
  · intro r hr
    have hd := h.dk r hr
    refine (hw r (Array.getElem?_eq_some_iff.1 hd).1 (fun hl hm => ?_)).trans hd
    obtain ⟨c, hc⟩ := Option.isSome_iff_exists.1 hl
    exact ((h.own o0 c hc).2 r hm).2.2.2 hr
  · intro o c hc
    by_cases ho : o = o0
    · subst ho
      rw [St.ob_lay, if_pos rfl] at hc
      rw [upd_same]
      have := hF (by rw [hc]; rfl)
      exact ⟨this.1, fun b hb => ⟨(this.2 b hb).1, (this.2 b hb).2.1, (this.2 b hb).2.2.1, (this.2 b hb).2.2.2.1⟩⟩
    · have hc' := hoth o c ho hc
      rw [upd_other _ _ _ ho]
      have := h.own o c hc'
      exact ⟨this.1, fun b hb => ⟨(this.2 b hb).1, Nat.lt_of_lt_of_le (this.2 b hb).2.1 hsz, (this.2 b hb).2.2⟩⟩
  · intro o o' c c' hc hc' hne b hb
    by_cases ho : o = o0
    · subst ho
      have ho' : o' ≠ o := fun e => hne e.symm
      rw [upd_same] at hb
      rw [upd_other _ _ _ ho']
      rw [St.ob_lay, if_pos rfl] at hc
      exact ((hF (by rw [hc]; rfl)).2 b hb).2.2.2.2 o' c' ho' (hoth o' c' ho' hc')
    · rw [upd_other _ _ _ ho] at hb
      by_cases ho' : o' = o0
      · subst ho'
        rw [upd_same]
        intro hm
        rw [St.ob_lay, if_pos rfl] at hc'
        exact ((hF (by rw [hc']; rfl)).2 b hm).2.2.2.2 o c ho (hoth o c ho hc) hb
      · rw [upd_other _ _ _ ho']
        exact h.dis o o' c c' (hoth o c ho hc) (hoth o' c' ho' hc') hne b hb

/-- The world draws. -/
theorem RepW.drew (h : RepW C s ρ S Φ w) : RepW C s ρ S Φ w.drew ∧ ∀ d v, RV w S ρ s.sh d v [] → RV w.drew S ρ s.sh d v [] := by
  have hm : ∀ {d v F}, RV w S ρ s.sh d v F → RV w.drew S ρ s.sh d v F := fun hr => hr.mono (w := w) (w' := w.drew) (fun _ h => h) (fun _ _ => rfl) (fun o => ⟨Nat.le_refl _, fun _ => ⟨rfl, rfl⟩⟩) (fun _ _ => rfl)
  exact ⟨⟨h.os, h.tape, h.output, h.size, h.szs.trans (Szs.same (w' := w.drew) fun _ _ => rfl), h.fr, h.s0, h.s1, h.sc.same (w' := w.drew) (fun _ _ => rfl), fun g cs hg => hm (h.gl g cs hg), fun o c hc => (h.ob o c hc).mono (w := w) (w' := w.drew) (fun _ h => h) (fun _ _ => rfl) (fun o => ⟨Nat.le_refl _, fun _ => ⟨rfl, rfl⟩⟩) (fun _ _ => rfl), fun d v hv => hm (h.rv d v hv), h.dk, h.dkn, h.own, h.dis⟩, fun d v hr => hm hr⟩

theorem getD_set {a : Array Value} {t : Nat} {v : Value} (h : t < a.size) (x : Nat) : (a.setIfInBounds t v).getD x undef = if x = t then v else a.getD x undef := by
  by_cases hx : x = t
  · subst hx; simp [Array.getD_eq_getD_getElem?, h]
  · rw [if_neg hx]
    simp only [Array.getD_eq_getD_getElem?]
    rw [Array.getElem?_setIfInBounds_ne (fun e => hx e.symm)]

/-- A value comes into a slot. -/
theorem rep_put {a : Act} {s' : St} {ρ' : Nat → Pl} {S' : Nat → Prop} {Φ' : Nat → List Nat} (hd : a.defers = dfl s'.dk) (hn : a.tmps.size = C.n) (h : RepW C s' ρ' S' Φ' w')
    (hs : ∀ t, RV w' S' ρ' s'.sh (s'.slot t) (a.tmps.getD t undef) []) (t : Option Nat) (ht : ∀ x, t = some x → x < C.n) (d : D) (v : Value) (hv : RV w' S' ρ' s'.sh d v []) : Rep C (s'.puto t d) (a.put t v) w' := by
  cases t with
  | none => exact ⟨hd, hn, ρ', S', Φ', h, hs⟩
  | some t =>
    have ht' := ht t rfl
    refine ⟨hd, by simpa [Act.put] using hn, ρ', S', Φ', ⟨h.os, h.tape, h.output, h.size, h.szs, h.fr, h.s0, h.s1, h.sc, h.gl, h.ob, h.rv, h.dk, h.dkn, h.own, h.dis⟩, fun x => ?_⟩
    show RV w' S' ρ' s'.sh ((s'.put t d).slot x) ((a.tmps.setIfInBounds t v).getD x undef) []
    rw [St.slot_put, getD_set (by rw [hn]; exact ht')]
    split
    · exact hv
    · exact hs x
end
end Go.Proofs.Ytpmbdppppnbmnaa
