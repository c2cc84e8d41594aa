/- What the claim leans on, text Zr: Rng, Rngo, Chunk, Shw, Rdp. No condition beyond what each lemma states. -/
import Derived.Test.YtabkpoklihkifaaDoorZk
import Derived.Test.YtabkpoklihkifaaDoorChecked
import Derived.RangeFuncBox
import Derived.RangeFuncLeaves
import Derived.Shelf.Abstract
import Derived.WalkKit
import Derived.OwnWalkIn
import Derived.TacticsInMore
import Derived.LoopNIn
import Derived.LoopIn
import Derived.Sort.QuietIn
import Derived.BigQuiet
import Derived.Deep.QuietTactic
import Derived.Lib.Hide
import Derived.Test.YtabkpoklihkifaaDoorZd

/- A range over the pieces of a row of bytes. Over any program. -/
namespace Go.Proofs.YtabkpoklihkifaaDoor
open Go Go.RowKit
set_option linter.unusedVariables false
set_option linter.unusedSimpArgs false

/-- Piece k of n bytes. -/
def pc (l : List UInt8) (n k : Nat) : List UInt8 := (l.drop (k * n)).take n
/-- How many there are. -/
def pcN (m n : Nat) : Nat := (m + n - 1) / n
theorem pcN_lt {m n k : Nat} (hn : 0 < n) : k < pcN m n ↔ k * n < m := by
  unfold pcN
  rw [Nat.lt_div_iff_mul_lt hn]
  omega
theorem pcN_le {m n : Nat} (hn : 0 < n) : pcN m n ≤ m := by
  rcases Nat.lt_or_ge m (pcN m n) with h | h
  · have := (pcN_lt hn).1 h
    have := Nat.le_mul_of_pos_right m hn
    omega
  · exact h
/-- Piece k, as a value. -/
def pv (A : Option Addr) (m n k : Nat) : Value :=
  match A with
  | some a => .slice (some (a.add (k * n))) (min n (m - k * n)) (min n (m - k * n))
  | none => .slice none 0 0
def Ix_ (m n : Nat) := { k : Nat // k * n < m }
/-- What the iterator looks at. -/
def Keep2 (b1 b2 : Nat) (W W' : World) : Prop := W'.heap[b1]? = W.heap[b1]? ∧ W'.heap[b2]? = W.heap[b2]?
/-- The contract of the function that hands out pieces. -/
def ChunkOk (P : Program) (f : Nat) : Prop :=
  fnOk P f ∧ ∀ (n m b1 b2 : Nat) (A : Option Addr) (cap : Nat) (w : World), 0 < n → n ≤ 4611686018427387904 → m ≤ 140737488355328 → m ≤ cap → (0 < m → ∃ b off, A = some ⟨b, off, none⟩) → b1 < w.heap.size → b2 < w.heap.size → w.cell? ⟨b1, 0, none⟩ = some (.slice A m cap) → w.cell? ⟨b2, 0, none⟩ = some (.int .i64 n) →
    SeqStopsK Fence.wide 4 P f #[.pointer (some ⟨b1, 0, none⟩), .pointer (some ⟨b2, 0, none⟩)] (fun k : Ix_ m n => #[pv A m n k.1]) (Keep2 b1 b2) (fun xs => xs.map (·.1) = List.range (pcN m n)) (fun _ => True) (pcN m n) w

/-! A walk within a walk. -/
/-- The blocks of the live objects. -/
def ownL (s : St) (Φ : Nat → List Nat) : List Nat := (s.hp.map (·.1)).flatMap Φ
theorem ob_name {s : St} {o : Nat} {c : Cont} (h : (s.ob o).ct = some c) : o ∈ s.hp.map (·.1) := by
  by_cases ho : o ∈ s.hp.map (·.1)
  · exact ho
  · have : s.ob o = .no := look_none _ _ ho
    rw [this] at h
    cases h
/-- What a round may lean on: the state s, in the frame a and the world w. -/
def rctx (C : Ctx) (w : World) (S : Nat → Prop) (M : List Nat) (kp : D → Value → Prop) (rnd : Option Nat) : Ctx := ⟨C.P, w, M, S, C.G, C.gp, C.n, kp, rnd⟩
section
variable {C : Ctx} {s s' : St} {ρ ρ' : Nat → Pl} {S S' : Nat → Prop} {Φ Φ' : Nat → List Nat} {w w' : World} {kp : D → Value → Prop} {rnd : Option Nat}
theorem own_nd (h : RepW C s ρ S Φ w) {b : Nat} (hb : b ∈ ownL s Φ) (hl : ∀ o, o ∈ s.hp.map (·.1) → (s.ob o).ct = none → Φ o = []) : ∃ o c, (s.ob o).ct = some c ∧ b ∈ Φ o := by
  obtain ⟨o, ho, hbo⟩ := List.mem_flatMap.1 hb
  rcases hc : (s.ob o).ct with _ | c
  · rw [hl o ho hc] at hbo; cases hbo
  · exact ⟨o, c, hc, hbo⟩
/-- Objects that aren't alive own nothing. -/
def cln (s : St) (Φ : Nat → List Nat) : Nat → List Nat := fun o => if (s.ob o).ct.isSome then Φ o else []
theorem rep_cln (h : RepW C s ρ S Φ w) : RepW C s ρ S (cln s Φ) w := by
  have e : ∀ o c, (s.ob o).ct = some c → cln s Φ o = Φ o := fun o c hc => by unfold cln; rw [if_pos (by rw [hc]; rfl)]
  exact ⟨h.os, h.tape, h.output, h.size, h.szs, h.fr, h.s0, h.s1, h.sc, h.gl, fun o c hc => by rw [e o c hc]; exact h.ob o c hc, h.rv, h.dk, h.dkn, fun o c hc => by rw [e o c hc]; exact h.own o c hc,
    fun o o' c c' hc hc' hne => by rw [e o c hc, e o' c' hc']; exact h.dis o o' c c' hc hc' hne⟩
theorem cln_none (o : Nat) (h : (s.ob o).ct = none) : cln s Φ o = [] := by unfold cln; rw [h]; rfl
theorem ownL_cln (h : RepW C s ρ S (cln s Φ) w) {b : Nat} (hb : b ∈ ownL s (cln s Φ)) : ∃ o c, (s.ob o).ct = some c ∧ b ∈ cln s Φ o := own_nd h hb (fun o _ hc => cln_none o hc)
/-- In. -/
theorem rep_rin (h : RepW C s ρ S (cln s Φ) w) (hk : ∀ d v, kp d v → RV w S ρ s.sh d v []) : RepW (rctx C w S (ownL s (cln s Φ)) kp rnd) ⟨[], s.hp, []⟩ ρ S (cln s Φ) w :=
  ⟨rfl, rfl, rfl, Nat.le_refl _, Szs.refl w, fun _ _ _ => rfl, fun _ h => h, fun b hb => ⟨(h.s1 b hb).1, .inl hb⟩, h.sc, h.gl, h.ob, hk, by simp, ⟨by simp, by simp⟩,
    fun o c hc => ⟨(h.own o c hc).1, fun b hb => ⟨((h.own o c hc).2 b hb).1, ((h.own o c hc).2 b hb).2.1, .inr (List.mem_flatMap.2 ⟨o, ob_name hc, hb⟩), by simp⟩⟩, h.dis⟩
/-- Out. -/
theorem rep_rout (h : RepW C s ρ S (cln s Φ) w) (h' : RepW (rctx C w S (ownL s (cln s Φ)) kp rnd) s' ρ' S' Φ' w') (hk : ∀ d v, C.keep d v → kp d v) (hdk : s'.dk = []) : RepW C ⟨s'.sl, s'.hp, s.dk⟩ ρ' S' Φ' w' := by
  have hM : ∀ b ∈ ownL s (cln s Φ), ∃ o c, (s.ob o).ct = some c ∧ b ∈ cln s Φ o := fun b hb => ownL_cln h hb
  have hnM : ∀ b, S b → b ∉ ownL s (cln s Φ) := fun b hb hm => by
    obtain ⟨o, c, hc, hbo⟩ := hM b hm
    exact ((h.own o c hc).2 b hbo).1 hb
  have hfrom : ∀ b, (S b ∨ w.heap.size ≤ b ∨ b ∈ ownL s (cln s Φ)) → C.S0 b ∨ C.w0.heap.size ≤ b ∨ b ∈ C.M := fun b hb => by
    rcases hb with hb | hb | hb
    · exact (h.s1 b hb).2
    · exact .inr (.inl (Nat.le_trans h.size hb))
    · obtain ⟨o, c, hc, hbo⟩ := hM b hb
      exact .inr ((h.own o c hc).2 b hbo).2.2.1
  have hdkM : ∀ r ∈ s.dk, r ∉ ownL s (cln s Φ) ∧ r < w.heap.size := fun r hr => ⟨fun hm => by
    obtain ⟨o, c, hc, hbo⟩ := hM r hm
    exact ((h.own o c hc).2 r hbo).2.2.2 hr, (Array.getElem?_eq_some_iff.1 (h.dk r hr)).1⟩
  have hdk' : ∀ r ∈ s.dk, w'.heap[r]? = some (.deferred (some [])) := fun r hr => (h'.fr r (hdkM r hr).2 (hdkM r hr).1).trans (h.dk r hr)
  refine ⟨h'.os.trans h.os, h'.tape.trans h.tape, h'.output.trans h.output, Nat.le_trans h.size h'.size, h.szs.trans h'.szs, fun b hb hbM => ?_, fun b hb => h'.s0 b (h.s0 b hb), fun b hb => ⟨(h'.s1 b hb).1, hfrom b (h'.s1 b hb).2⟩, h'.sc, h'.gl, h'.ob, fun d v hv => h'.rv d v (hk d v hv), hdk', ⟨h.dkn.1, fun r hr => ⟨(h.dkn.2 r hr).1, fun hS => ?_⟩⟩, fun o c hc => ⟨(h'.own o c hc).1, fun b hb => ?_⟩, h'.dis⟩
  · have hbm : b ∉ ownL s (cln s Φ) := fun hm => by
      obtain ⟨o, c, hc, hbo⟩ := hM b hm
      rcases ((h.own o c hc).2 b hbo).2.2.1 with q | q
      · omega
      · exact hbM q
    exact (h'.fr b (Nat.lt_of_lt_of_le hb h.size) hbm).trans (h.fr b hb hbM)
  · obtain ⟨_, _, _, e⟩ := h'.sc r hS
    rw [hdk' r hr] at e
    cases e
  · obtain ⟨q1, q2, q3, q4⟩ := (h'.own o c hc).2 b hb
    refine ⟨q1, q2, ?_, fun hr => ?_⟩
    · rcases hfrom b (.inr q3) with q | q
      · rcases q3 with q3 | q3
        · exact .inl (Nat.le_trans h.size q3)
        · obtain ⟨o', c', hc', hbo⟩ := hM b q3
          exact ((h.own o' c' hc').2 b hbo).2.2.1
      · exact q
    · obtain ⟨_, _, _, e⟩ := (h'.ob o c hc).rows b hb
      rw [hdk' b hr] at e
      cases e
/-- One more mark. -/
theorem rep_mark (h : RepW C s ρ S Φ w) (D : Nat) (hD : C.w0.heap.size ≤ D) (hn : D ∉ s.dk) (hd : w.heap[D]? = some (.deferred (some []))) : RepW C ⟨s.sl, s.hp, D :: s.dk⟩ ρ S Φ w :=
  ⟨h.os, h.tape, h.output, h.size, h.szs, h.fr, h.s0, h.s1, h.sc, h.gl, h.ob, h.rv, fun r hr => by
    rcases List.mem_cons.1 hr with rfl | hr
    · exact hd
    · exact h.dk r hr, ⟨List.nodup_cons.2 ⟨hn, h.dkn.1⟩, fun r hr => by
    rcases List.mem_cons.1 hr with rfl | hr
    · refine ⟨hD, fun hS => ?_⟩
      obtain ⟨_, _, _, e⟩ := h.sc r hS
      rw [hd] at e
      cases e
    · exact h.dkn.2 r hr⟩, fun o c hc => ⟨(h.own o c hc).1, fun b hb => by
    obtain ⟨q1, q2, q3, q4⟩ := (h.own o c hc).2 b hb
    refine ⟨q1, q2, q3, fun hr => ?_⟩
    rcases List.mem_cons.1 hr with rfl | hr
    · obtain ⟨_, _, _, e⟩ := (h.ob o c hc).rows b hb
      rw [hd] at e
      cases e
    · exact q4 hr⟩, h.dis⟩
/-- What is no row may turn beyond the call's beginning. -/
theorem rep_grown (h : RepW C s ρ S Φ w) (hdk : s.dk = []) {row : Option Nat} (hg : w.grownBy w' row) (hr : ∀ r, row = some r → C.w0.heap.size ≤ r ∧ ∃ o : Obj, w.heap[r]? = some o ∧ o.isCells = false) : RepW C s ρ S Φ w' := by
  have hc : ∀ b, (∃ cur E fz, w.heap[b]? = some (Obj.cells cur E fz)) → w'.heap[b]? = w.heap[b]? := fun b ⟨cur, E, fz, e⟩ => hg.block b (Array.getElem?_eq_some_iff.1 e).1 (fun e' => by
    obtain ⟨_, o, h1, h2⟩ := hr b e'.symm
    rw [e] at h1
    injection h1 with h1
    subst h1
    cases h2)
  have hm : ∀ {d v}, RV w S ρ s.sh d v [] → RV w' S ρ s.sh d v [] := fun hr => hr.mono (fun _ h => h) (fun b hb => hc b (h.sc b hb)) (fun _ => ⟨Nat.le_refl _, fun _ => ⟨rfl, rfl⟩⟩) (by simp)
  refine ⟨hg.os.trans h.os, hg.tape.trans h.tape, hg.output.trans h.output, Nat.le_trans h.size hg.size, fun b cur E fz hb => ?_, fun b hb hbM => ?_, h.s0, fun b hb => ⟨Nat.lt_of_lt_of_le (h.s1 b hb).1 hg.size, (h.s1 b hb).2⟩, h.sc.same (fun b hb => hc b (h.sc b hb)), fun g cs hg' => hm (h.gl g cs hg'),
    fun o c ho => (h.ob o c ho).mono (fun _ h => h) (fun b hb => hc b (h.sc b hb)) (fun _ => ⟨Nat.le_refl _, fun _ => ⟨rfl, rfl⟩⟩) (fun b hb => hc b ((h.ob o c ho).rows b hb)), fun d v hv => hm (h.rv d v hv), by rw [hdk]; simp, by rw [hdk]; exact ⟨by simp, by simp⟩,
    fun o c ho => ⟨(h.own o c ho).1, fun b hb => ⟨((h.own o c ho).2 b hb).1, Nat.lt_of_lt_of_le ((h.own o c ho).2 b hb).2.1 hg.size, ((h.own o c ho).2 b hb).2.2⟩⟩, h.dis⟩
  · obtain ⟨cur', E', fz', k1, k2⟩ := h.szs b cur E fz hb
    exact ⟨cur', E', fz', (hc b ⟨_, _, _, k1⟩).trans k1, k2⟩
  · refine (hg.block b (Nat.lt_of_lt_of_le hb h.size) (fun e => ?_)).trans (h.fr b hb hbM)
    have := (hr b e.symm).1
    omega
end

/-! The rule. -/
def rq (C : Ctx) (s : St) (J : Prop) : Exit → St → Prop
  | .normal, s' => Wk C s' s ∧ J
  | _, _ => False
theorem rq_n {C : Ctx} {s s' : St} {J : Prop} (h : Wk C s' s) (hj : J) : rq C s J .normal s' := ⟨h, hj⟩
/-- A round's state: the slots are as they were. -/
theorem rdS_pv {w : World} {S : Nat → Prop} {A : Option Addr} {m cap n k : Nat} {l : List UInt8} (h : RdS w S A m cap l) (hk : k * n < m) : ∃ B e, pv A m n k = .slice B e e ∧ RdS w S B e e (pc l n k) := by
  obtain ⟨b, off, rfl, hb, hc⟩ := h.cells (by omega)
  refine ⟨_, _, rfl, ?_, Nat.le_refl _, ?_, fun h0 => ⟨b, off + k * n, by simp [add_lit], hb, fun i hi => ?_⟩⟩
  · unfold pc
    rw [List.length_take, List.length_drop, h.len]
  · have := h.le; have := h.max; omega
  · rw [Nat.add_assoc, hc (k * n + i) (by omega)]
    congr 2
    simp only [pc, gb, List.getD_eq_getElem?_getD, List.getElem?_take, List.getElem?_drop]
    rw [if_pos (by omega)]
theorem vf {C : Ctx} {Ti : Nat → TI} {G : Nat → Option D} {nt : Nat} (hE : Env C Ti G nt) {s0 : St} {sl : List (Nat × D)} {dk : List Nat} {t p q id f n : Nat} {l : List UInt8} {ty : TypeId} {pos : String} {af : Array Edge} {body : Code} {Q : Exit → St → Prop}
    (hrn : C.rnd = none) (hck : ChunkOk C.P f) (hn0 : 0 < n) (hnb : n ≤ 4611686018427387904) (hl : l.length ≤ 140737488355328) (hp1 : Nat.blt p nt = true) (hq1 : Nat.blt q nt = true)
    (I : List Nat → List (Nat × Ob)) (J : List Nat → Prop) (h0 : Wk C s0 ⟨sl, I [], dk⟩) (j0 : J []) (hg : frc (look .bot sl t) = some (.chunk f l n))
    (ns : List Nat) (hns : ∀ t, ∀ o ∈ (look .bot sl t).nm, o ∈ ns) (hkn : ∀ d v, C.keep d v → ∀ o ∈ d.nm, o ∈ ns)
    (round : ∀ (C' : Ctx) (pre : List Nat) (k : Nat), Env C' Ti G nt → C'.P = C.P → (∀ d v, C'.keep d v → ∀ o ∈ d.nm, o ∈ ns) → J pre → k * n < l.length → pre.length < pcN l.length n → VC C' body ⟨(q, .rob (pc l n k)) :: (p, .rob (pc l n k)) :: sl, I pre, []⟩ (rq C' ⟨[], I (pre ++ [k]), []⟩ (J (pre ++ [k]))))
    (done : ∀ dk', J (List.range (pcN l.length n)) → Q .normal ⟨sl, I (List.range (pcN l.length n)), dk'⟩) :
    VC C (.rangeFunc (.tmp t) #[p] (.region id #[⟨some q, .assign (.tmp p), ty, pos, af, none⟩] false) body) s0 Q := by
  intro m0 a w hr0
  rw [hrn]
  obtain ⟨h1, h2, ρ, S, Φ0, h3', h4⟩ := h0 a w hr0
  have h3 := rep_cln h3'
  generalize hs : (⟨sl, I [], dk⟩ : St) = s at *
  have hslot : ∀ x, s.slot x = look .bot sl x := fun x => by rw [← hs]; rfl
  have hsh : s.hp = I [] := by rw [← hs]
  have hsd : s.dk = dk := by rw [← hs]
  let kp : D → Value → Prop := fun d v => C.keep d v ∨ ∃ t, d = s.slot t ∧ v = a.tmps.getD t undef
  have hin : RepW (rctx C w S (ownL s (cln s Φ0)) kp none) ⟨[], s.hp, []⟩ ρ S (cln s Φ0) w := rep_rin h3 (fun d v hk => by
    rcases hk with hk | ⟨t, rfl, rfl⟩
    · exact h3.rv d v hk
    · exact h4 t)
  have hv := h4 t
  rw [hslot, frc_ok hg] at hv
  have hval : ∃ b1 b2 A m cap, a.tmps.getD t undef = .func (.func f) #[] #[.pointer (some ⟨b1, 0, none⟩), .pointer (some ⟨b2, 0, none⟩)] ∧ S b1 ∧ S b2 ∧ RdS w S A m cap l ∧ w.cell? ⟨b1, 0, none⟩ = some (.slice A m cap) ∧ w.cell? ⟨b2, 0, none⟩ = some (.int .i64 n) := by
    generalize a.tmps.getD t undef = v at hv
    cases hv with
    | chunk _ _ _ b1 b2 A m cap h1 h2 h hc1 hc2 => exact ⟨b1, b2, A, m, cap, rfl, h1, h2, h, hc1, hc2⟩
  obtain ⟨b1, b2, A, m, cap, hval, hS1, hS2, hRd, hc1, hc2⟩ := hval
  have hml : l.length = m := hRd.len
  have hlt1 := h3.sc.lt hS1
  have hlt2 := h3.sc.lt hS2
  have hev : a.eval (.tmp t) = .func (.func f) #[] #[.pointer (some ⟨b1, 0, none⟩), .pointer (some ⟨b2, 0, none⟩)] := hval
  have hA : 0 < m → ∃ b off, A = some ⟨b, off, none⟩ := fun h => by
    obtain ⟨b, off, e, _⟩ := hRd.cells h
    exact ⟨_, _, e⟩
  let Iw : List (Ix_ m n) → World → Prop := fun pre W => J (pre.map (·.1)) ∧ ∃ ρ S' Φ, RepW (rctx C w S (ownL s (cln s Φ0)) kp none) ⟨[], I (pre.map (·.1)), []⟩ ρ S' Φ W
  have hnt : C.n = nt := hE.n
  have hpn : p < a.tmps.size := by rw [h2, hnt]; simpa [Nat.blt_eq] using hp1
  have hqn : q < a.tmps.size := by rw [h2, hnt]; simpa [Nat.blt_eq] using hq1
  refine (wpIn_wide (n := m0)).2 ((wpIn_wide (n := 5)).1 (wpIn_rangeFunc_ownH (F := Fence.wide) (n := 5) (w0 := w) rfl (by decide) hev trivial (fun args w => run_callf hck.1 args) (hck.2 n m b1 b2 A cap w hn0 hnb (by rw [← hml]; exact hl) hRd.le hA hlt1 hlt2 hc1 hc2)
    (fun {a b c} h h' => ⟨h'.1.trans h.1, h'.2.trans h.2⟩) (fun W x o o' hx _ _ _ => ⟨World.putObj_heap_other (by omega), World.putObj_heap_other (by omega)⟩) (Below.refl _ _) (fun _ => rfl) Iw (fun _ _ _ => False)
    (fun pre W W' row hi hgr hrow => ⟨hi.1, by obtain ⟨ρ, S', Φ, hr⟩ := hi.2; exact ⟨ρ, S', Φ, rep_grown hr rfl hgr hrow⟩⟩) (fun _ _ _ _ _ h _ _ => h.elim) ⟨j0, ρ, S, cln s Φ0, by rw [hsh] at hin; exact hin⟩
    (fun x a' _ => a' = { tmps := (a.tmps.setIfInBounds p (pv A m n x.1)).setIfInBounds q (pv A m n x.1), defers := [] }) (fun _ _ _ _ _ _ h _ _ => h) ?_ ?_ ?_ ?_))
  · -- the assignment
    intro lr pre x W K hi hK
    refine wpIn_region_list ?_
    show wpListIn _ _ _ _ _ [_] _ _
    unfold wpListIn
    refine step_in (l := some lr) (fun c e => by cases e) ?_
    rw [if_pos (by simp [Region.wanted])]
    have he : ({ tmps := (#[p].zip #[pv A m n x.1]).foldl (fun t (p, v) => t.setIfInBounds p v) a.tmps, defers := [] } : Act) = { tmps := a.tmps.setIfInBounds p (pv A m n x.1), defers := [] } := by simp
    rw [he]
    have hev2 : ({ tmps := a.tmps.setIfInBounds p (pv A m n x.1), defers := [] } : Act).eval (.tmp p) = pv A m n x.1 := by
      show (a.tmps.setIfInBounds p (pv A m n x.1)).getD p undef = _
      rw [getD_set hpn, if_pos rfl]
    refine wp_value (v := pv A m n x.1) (w' := W) (by simp [execOp, hev2]) ?_
    exact hK _ W (KeepsFrom.refl _ _) ⟨rfl, rfl⟩ hi rfl
  · -- the body
    intro lr pre x a' W hlr hrec hi hax hlen
    obtain ⟨hj, ρ1, S1, Φ1, hr1⟩ := hi
    have hr1c := rep_cln hr1
    have hkn' : ∀ d v, kp d v → ∀ o ∈ d.nm, o ∈ ns := fun d v hk => by
      rcases hk with hk | ⟨t, rfl, _⟩
      · exact hkn d v hk
      · rw [hslot]; exact hns t
    have hin2 := rep_rin (rnd := some lr) hr1c (fun d v hk => hr1c.rv d v hk)
    have hb1 : W.heap[b1]? = w.heap[b1]? := hr1c.fr b1 hlt1 (fun hm => by
      obtain ⟨o, c, hc, hbo⟩ := ownL_cln h3 hm
      exact ((h3.own o c hc).2 b1 hbo).1 hS1)
    obtain ⟨B, e0, hpv, hrd⟩ := rdS_pv (n := n) (show RdS W S1 A m cap l from by
      have := hr1c.rv (.chunk f l n) (a.tmps.getD t undef) (.inr ⟨t, by rw [hslot, frc_ok hg], rfl⟩)
      rw [hval] at this
      cases this with
      | chunk _ _ _ _ _ A' m' cap' _ _ h hc1' hc2' =>
        rw [World.cell?_of_block (a := ⟨b1, 0, none⟩) hb1, hc1] at hc1'
        injection hc1' with hc1'
        injection hc1' with q1 q2 q3
        subst q1; subst q2; subst q3
        exact h) x.2
    let C2 : Ctx := rctx (rctx C w S (ownL s (cln s Φ0)) kp none) W S1 (ownL ⟨[], I (pre.map (·.1)), []⟩ (cln ⟨[], I (pre.map (·.1)), []⟩ Φ1)) kp (some lr)
    have hrep : Rep C2 ⟨(q, .rob (pc l n x.1)) :: (p, .rob (pc l n x.1)) :: sl, I (pre.map (·.1)), []⟩ a' W := by
      subst hax
      refine ⟨rfl, (by show _ = C.n; simpa using h2), ρ1, S1, _, hin2.congr (fun _ => rfl) rfl, fun t' => ?_⟩
      show RV W S1 ρ1 _ (look .bot ((q, .rob (pc l n x.1)) :: (p, .rob (pc l n x.1)) :: sl) t') (((a.tmps.setIfInBounds p (pv A m n x.1)).setIfInBounds q (pv A m n x.1)).getD t' undef) []
      rw [getD_set (by simpa using hqn), getD_set hpn]
      simp only [look]
      by_cases e1 : q = t'
      · rw [if_pos e1, if_pos (show t' = q from e1.symm), hpv]; exact .rob _ _ _ _ hrd
      · rw [if_neg e1, if_neg (show ¬ t' = q from fun e => e1 e.symm)]
        by_cases e2 : p = t'
        · rw [if_pos e2, if_pos (show t' = p from e2.symm), hpv]; exact .rob _ _ _ _ hrd
        · rw [if_neg e2, if_neg (show ¬ t' = p from fun e => e2 e.symm)]
          exact hin2.rv _ _ (.inr ⟨t', (hslot t').symm, rfl⟩)
    have hvc := round C2 (pre.map (·.1)) x.1 ⟨hE.ti, hE.g, hE.n⟩ rfl hkn' hj (by rw [hml]; exact x.2) (by rw [hml, List.length_map]; exact hlen) 3 a' W hrep
    refine wpIn_mono hvc ?_
    rintro e a2 W2 ⟨s2, k1, k2⟩
    cases e with
    | normal =>
      obtain ⟨hwk, hj2⟩ := k2
      obtain ⟨_, _, ρ2, S2, Φ2, hr2, _⟩ := hwk a2 W2 k1
      have hnM : ∀ b, S1 b → b ∉ ownL ⟨[], I (pre.map (·.1)), []⟩ (cln ⟨[], I (pre.map (·.1)), []⟩ Φ1) := fun b hb hm => by
        obtain ⟨o, c, hc, hbo⟩ := ownL_cln hr1c hm
        exact ((hr1c.own o c hc).2 b hbo).1 hb
      have hout := rep_rout hr1c hr2 (fun d v h => h) rfl
      refine ⟨⟨hr2.size, fun k o hk hko hcl => ?_⟩, ⟨hr2.fr b1 ?_ ?_, hr2.fr b2 ?_ ?_⟩, by rw [List.map_append]; exact hj2, ρ2, S2, Φ2, by rw [List.map_append]; exact hout⟩
      · refine (hr2.fr k (Array.getElem?_eq_some_iff.1 hko).1 (fun hm => ?_)).trans hko
        obtain ⟨o', c, hc, hbo⟩ := ownL_cln hr1c hm
        obtain ⟨_, _, _, e⟩ := (hr1c.ob o' c hc).rows k hbo
        rw [hko] at e
        injection e with e
        subst e
        cases hcl
      · exact (hr1c.s1 b1 (hr1c.s0 b1 hS1)).1
      · exact hnM b1 (hr1c.s0 b1 hS1)
      · exact (hr1c.s1 b2 (hr1c.s0 b2 hS2)).1
      · exact hnM b2 (hr1c.s0 b2 hS2)
    | _ => exact k2.elim
  · -- behind the loop
    intro Dm xs W hD hSx hi hDef
    obtain ⟨hj, ρ', S', Φ', hr'⟩ := hi
    rw [hSx] at hj hr'
    have hout := rep_rout h3 hr' (fun d v h => .inl h) rfl
    have hout2 := hout.congr (s' := ⟨sl, I (List.range (pcN m n)), s.dk⟩) (fun _ => rfl) rfl
    have hmk := rep_mark hout2 Dm (Nat.le_trans h3.size hD) (fun hm => by
      have := (Array.getElem?_eq_some_iff.1 (h3.dk Dm hm)).1
      omega) hDef
    rw [← hml] at hmk hj
    refine ⟨_, ⟨?_, h2, ρ', S', Φ', hmk, fun x => ?_⟩, done (Dm :: s.dk) hj⟩
    · show _ :: a.defers = dfl (Dm :: s.dk)
      rw [h1]
      rfl
    · rw [← hml] at hr'
      exact hr'.rv _ _ (.inr ⟨x, (hslot x).symm, rfl⟩)
  · intro Dm c pre W _ _ h _
    exact h.elim
end Go.Proofs.YtabkpoklihkifaaDoor

/- A range over the pieces of an own row of bytes, which the rounds may write. Over any program. -/
namespace Go.Proofs.YtabkpoklihkifaaDoor
open Go Go.RowKit
set_option linter.unusedVariables false
set_option linter.unusedSimpArgs false

theorem vfo {C : Ctx} {Ti : Nat → TI} {G : Nat → Option D} {nt : Nat} (hE : Env C Ti G nt) {s0 : St} {sl : List (Nat × D)} {dk : List Nat} {t p q id f n o g off len : Nat} {ty : TypeId} {pos : String} {af : Array Edge} {body : Code} {Q : Exit → St → Prop}
    (hrn : C.rnd = none) (hck : ChunkOk C.P f) (hn0 : 0 < n) (hnb : n ≤ 4611686018427387904) (hl : len ≤ 140737488355328) (hp1 : Nat.blt p nt = true) (hq1 : Nat.blt q nt = true)
    (I : List Nat → List (Nat × Ob)) (J : List Nat → Prop) (h0 : Wk C s0 ⟨sl, I [], dk⟩) (j0 : J []) (hg : frc (look .bot sl t) = some (.chunko f o g off len n)) (hsh0 : ∀ pre, ((⟨[], I pre, []⟩ : St).sh o).gen = g ∧ ((⟨[], I pre, []⟩ : St).sh o).esz = 1)
    (ns : List Nat) (hns : ∀ t, ∀ o ∈ (look .bot sl t).nm, o ∈ ns) (hkn : ∀ d v, C.keep d v → ∀ o ∈ d.nm, o ∈ ns)
    (round : ∀ (C' : Ctx) (pre : List Nat) (k : Nat), Env C' Ti G nt → C'.P = C.P → (∀ d v, C'.keep d v → ∀ o ∈ d.nm, o ∈ ns) → J pre → k * n < len → pre.length < pcN len n → VC C' body ⟨(q, .sl o g (off + k * n) (min n (len - k * n))) :: (p, .sl o g (off + k * n) (min n (len - k * n))) :: sl, I pre, []⟩ (rq C' ⟨[], I (pre ++ [k]), []⟩ (J (pre ++ [k]))))
    (done : ∀ dk', J (List.range (pcN len n)) → Q .normal ⟨sl, I (List.range (pcN len n)), dk'⟩) :
    VC C (.rangeFunc (.tmp t) #[p] (.region id #[⟨some q, .assign (.tmp p), ty, pos, af, none⟩] false) body) s0 Q := by
  intro m0 a w hr0
  rw [hrn]
  obtain ⟨h1, h2, ρ, S, Φ0, h3', h4⟩ := h0 a w hr0
  have h3 := rep_cln h3'
  generalize hs : (⟨sl, I [], dk⟩ : St) = s at *
  have hslot : ∀ x, s.slot x = look .bot sl x := fun x => by rw [← hs]; rfl
  have hsh : s.hp = I [] := by rw [← hs]
  have hsd : s.dk = dk := by rw [← hs]
  let kp : D → Value → Prop := fun d v => C.keep d v ∨ ∃ t, d = s.slot t ∧ v = a.tmps.getD t undef
  have hin : RepW (rctx C w S (ownL s (cln s Φ0)) kp none) ⟨[], s.hp, []⟩ ρ S (cln s Φ0) w := rep_rin h3 (fun d v hk => by
    rcases hk with hk | ⟨t, rfl, rfl⟩
    · exact h3.rv d v hk
    · exact h4 t)
  have hv := h4 t
  rw [hslot, frc_ok hg] at hv
  have hval : ∃ b1 b2 A m cap, a.tmps.getD t undef = .func (.func f) #[] #[.pointer (some ⟨b1, 0, none⟩), .pointer (some ⟨b2, 0, none⟩)] ∧ S b1 ∧ S b2 ∧ (m = len ∧ m ≤ cap ∧ SlAt (ρ o) (s.sh o) off len (.slice A m cap)) ∧ w.cell? ⟨b1, 0, none⟩ = some (.slice A m cap) ∧ w.cell? ⟨b2, 0, none⟩ = some (.int .i64 n) := by
    generalize a.tmps.getD t undef = v at hv
    cases hv with
    | chunko _ _ _ _ _ _ b1 b2 A cap h1 h2 hm hgle h hc1 hc2 => exact ⟨b1, b2, A, _, cap, rfl, h1, h2, ⟨rfl, hm, h (by rw [show s.sh = (⟨[], I [], []⟩ : St).sh from by funext x; unfold St.sh St.ob; rw [hsh]]; exact (hsh0 []).1.symm)⟩, hc1, hc2⟩
  obtain ⟨b1, b2, A, m, cap, hval, hS1, hS2, hRd, hc1, hc2⟩ := hval
  obtain ⟨hml', hmc, hSl⟩ := hRd
  have hml : len = m := hml'.symm
  have hlt1 := h3.sc.lt hS1
  have hlt2 := h3.sc.lt hS2
  have hev : a.eval (.tmp t) = .func (.func f) #[] #[.pointer (some ⟨b1, 0, none⟩), .pointer (some ⟨b2, 0, none⟩)] := hval
  have hA : 0 < m → ∃ b off, A = some ⟨b, off, none⟩ := fun h => by
    obtain ⟨A', cap', e, _, _, _, q⟩ := hSl
    injection e with e1 e2 e3
    rcases q with ⟨q, _⟩ | ⟨q, _⟩
    · omega
    · exact ⟨_, _, e1.trans q⟩
  let Iw : List (Ix_ m n) → World → Prop := fun pre W => J (pre.map (·.1)) ∧ ∃ ρ S' Φ, RepW (rctx C w S (ownL s (cln s Φ0)) kp none) ⟨[], I (pre.map (·.1)), []⟩ ρ S' Φ W
  have hnt : C.n = nt := hE.n
  have hpn : p < a.tmps.size := by rw [h2, hnt]; simpa [Nat.blt_eq] using hp1
  have hqn : q < a.tmps.size := by rw [h2, hnt]; simpa [Nat.blt_eq] using hq1
  refine (wpIn_wide (n := m0)).2 ((wpIn_wide (n := 5)).1 (wpIn_rangeFunc_ownH (F := Fence.wide) (n := 5) (w0 := w) rfl (by decide) hev trivial (fun args w => run_callf hck.1 args) (hck.2 n m b1 b2 A cap w hn0 hnb (by rw [← hml]; exact hl) hmc hA hlt1 hlt2 hc1 hc2)
    (fun {a b c} h h' => ⟨h'.1.trans h.1, h'.2.trans h.2⟩) (fun W x o o' hx _ _ _ => ⟨World.putObj_heap_other (by omega), World.putObj_heap_other (by omega)⟩) (Below.refl _ _) (fun _ => rfl) Iw (fun _ _ _ => False)
    (fun pre W W' row hi hgr hrow => ⟨hi.1, by obtain ⟨ρ, S', Φ, hr⟩ := hi.2; exact ⟨ρ, S', Φ, rep_grown hr rfl hgr hrow⟩⟩) (fun _ _ _ _ _ h _ _ => h.elim) ⟨j0, ρ, S, cln s Φ0, by rw [hsh] at hin; exact hin⟩
    (fun x a' _ => a' = { tmps := (a.tmps.setIfInBounds p (pv A m n x.1)).setIfInBounds q (pv A m n x.1), defers := [] }) (fun _ _ _ _ _ _ h _ _ => h) ?_ ?_ ?_ ?_))
  · -- the assignment
    intro lr pre x W K hi hK
    refine wpIn_region_list ?_
    show wpListIn _ _ _ _ _ [_] _ _
    unfold wpListIn
    refine step_in (l := some lr) (fun c e => by cases e) ?_
    rw [if_pos (by simp [Region.wanted])]
    have he : ({ tmps := (#[p].zip #[pv A m n x.1]).foldl (fun t (p, v) => t.setIfInBounds p v) a.tmps, defers := [] } : Act) = { tmps := a.tmps.setIfInBounds p (pv A m n x.1), defers := [] } := by simp
    rw [he]
    have hev2 : ({ tmps := a.tmps.setIfInBounds p (pv A m n x.1), defers := [] } : Act).eval (.tmp p) = pv A m n x.1 := by
      show (a.tmps.setIfInBounds p (pv A m n x.1)).getD p undef = _
      rw [getD_set hpn, if_pos rfl]
    refine wp_value (v := pv A m n x.1) (w' := W) (by simp [execOp, hev2]) ?_
    exact hK _ W (KeepsFrom.refl _ _) ⟨rfl, rfl⟩ hi rfl
  · -- the body
    intro lr pre x a' W hlr hrec hi hax hlen
    obtain ⟨hj, ρ1, S1, Φ1, hr1⟩ := hi
    have hr1c := rep_cln hr1
    have hkn' : ∀ d v, kp d v → ∀ o ∈ d.nm, o ∈ ns := fun d v hk => by
      rcases hk with hk | ⟨t, rfl, _⟩
      · exact hkn d v hk
      · rw [hslot]; exact hns t
    have hin2 := rep_rin (rnd := some lr) hr1c (fun d v hk => hr1c.rv d v hk)
    have hb1 : W.heap[b1]? = w.heap[b1]? := hr1c.fr b1 hlt1 (fun hm => by
      obtain ⟨o, c, hc, hbo⟩ := ownL_cln h3 hm
      exact ((h3.own o c hc).2 b1 hbo).1 hS1)
    have hsh1 := hsh0 (pre.map (·.1))
    have hpv : RV W S1 ρ1 (⟨[], I (pre.map (·.1)), []⟩ : St).sh (.sl o g (off + x.1 * n) (min n (len - x.1 * n))) (pv A m n x.1) [] := by
      have := hr1c.rv (.chunko f o g off len n) (a.tmps.getD t undef) (.inr ⟨t, by rw [hslot, frc_ok hg], rfl⟩)
      rw [hval] at this
      cases this with
      | chunko _ _ _ _ _ _ _ _ A' cap' _ _ _ _ h hc1' hc2' =>
        rw [World.cell?_of_block (a := ⟨b1, 0, none⟩) hb1, hc1] at hc1'
        injection hc1' with hc1'
        injection hc1' with q1 q2 q3
        subst q1; subst q3; clear q2
        rw [show pv A m n x.1 = pv A len n x.1 by rw [hml]]
        have h := h hsh1.1.symm
        have hx : x.1 * n < len := by rw [hml]; exact x.2
        generalize x.1 = kx at hx ⊢
        obtain ⟨A2, cap2, e, r1, r2, r3, r4⟩ := h
        injection e with e1 e2 e3
        subst e1; subst e3
        rw [hsh1.2] at r3 r4
        rcases r4 with ⟨r4, _⟩ | ⟨r4, r5⟩
        · omega
        · subst r4
          refine .sl _ _ _ _ _ rfl (Nat.le_of_eq hsh1.1.symm) (fun _ => ⟨_, min n (len - kx * n), rfl, Nat.le_refl _, by omega, by rw [hsh1.2]; omega, .inr ⟨by simp [add_lit, Nat.add_assoc], by rw [hsh1.2]; omega⟩⟩)
    let C2 : Ctx := rctx (rctx C w S (ownL s (cln s Φ0)) kp none) W S1 (ownL ⟨[], I (pre.map (·.1)), []⟩ (cln ⟨[], I (pre.map (·.1)), []⟩ Φ1)) kp (some lr)
    have hrep : Rep C2 ⟨(q, .sl o g (off + x.1 * n) (min n (len - x.1 * n))) :: (p, .sl o g (off + x.1 * n) (min n (len - x.1 * n))) :: sl, I (pre.map (·.1)), []⟩ a' W := by
      subst hax
      refine ⟨rfl, (by show _ = C.n; simpa using h2), ρ1, S1, _, hin2.congr (fun _ => rfl) rfl, fun t' => ?_⟩
      show RV W S1 ρ1 _ (look .bot ((q, .sl o g (off + x.1 * n) (min n (len - x.1 * n))) :: (p, .sl o g (off + x.1 * n) (min n (len - x.1 * n))) :: sl) t') (((a.tmps.setIfInBounds p (pv A m n x.1)).setIfInBounds q (pv A m n x.1)).getD t' undef) []
      rw [getD_set (by simpa using hqn), getD_set hpn]
      simp only [look]
      by_cases e1 : q = t'
      · rw [if_pos e1, if_pos (show t' = q from e1.symm)]; exact hpv
      · rw [if_neg e1, if_neg (show ¬ t' = q from fun e => e1 e.symm)]
        by_cases e2 : p = t'
        · rw [if_pos e2, if_pos (show t' = p from e2.symm)]; exact hpv
        · rw [if_neg e2, if_neg (show ¬ t' = p from fun e => e2 e.symm)]
          exact hin2.rv _ _ (.inr ⟨t', (hslot t').symm, rfl⟩)
    have hvc := round C2 (pre.map (·.1)) x.1 ⟨hE.ti, hE.g, hE.n⟩ rfl hkn' hj (by rw [hml]; exact x.2) (by rw [hml, List.length_map]; exact hlen) 3 a' W hrep
    refine wpIn_mono hvc ?_
    rintro e a2 W2 ⟨s2, k1, k2⟩
    cases e with
    | normal =>
      obtain ⟨hwk, hj2⟩ := k2
      obtain ⟨_, _, ρ2, S2, Φ2, hr2, _⟩ := hwk a2 W2 k1
      have hnM : ∀ b, S1 b → b ∉ ownL ⟨[], I (pre.map (·.1)), []⟩ (cln ⟨[], I (pre.map (·.1)), []⟩ Φ1) := fun b hb hm => by
        obtain ⟨o, c, hc, hbo⟩ := ownL_cln hr1c hm
        exact ((hr1c.own o c hc).2 b hbo).1 hb
      have hout := rep_rout hr1c hr2 (fun d v h => h) rfl
      refine ⟨⟨hr2.size, fun k o hk hko hcl => ?_⟩, ⟨hr2.fr b1 ?_ ?_, hr2.fr b2 ?_ ?_⟩, by rw [List.map_append]; exact hj2, ρ2, S2, Φ2, by rw [List.map_append]; exact hout⟩
      · refine (hr2.fr k (Array.getElem?_eq_some_iff.1 hko).1 (fun hm => ?_)).trans hko
        obtain ⟨o', c, hc, hbo⟩ := ownL_cln hr1c hm
        obtain ⟨_, _, _, e⟩ := (hr1c.ob o' c hc).rows k hbo
        rw [hko] at e
        injection e with e
        subst e
        cases hcl
      · exact (hr1c.s1 b1 (hr1c.s0 b1 hS1)).1
      · exact hnM b1 (hr1c.s0 b1 hS1)
      · exact (hr1c.s1 b2 (hr1c.s0 b2 hS2)).1
      · exact hnM b2 (hr1c.s0 b2 hS2)
    | _ => exact k2.elim
  · -- behind the loop
    intro Dm xs W hD hSx hi hDef
    obtain ⟨hj, ρ', S', Φ', hr'⟩ := hi
    rw [hSx] at hj hr'
    have hout := rep_rout h3 hr' (fun d v h => .inl h) rfl
    have hout2 := hout.congr (s' := ⟨sl, I (List.range (pcN m n)), s.dk⟩) (fun _ => rfl) rfl
    have hmk := rep_mark hout2 Dm (Nat.le_trans h3.size hD) (fun hm => by
      have := (Array.getElem?_eq_some_iff.1 (h3.dk Dm hm)).1
      omega) hDef
    rw [← hml] at hmk hj
    refine ⟨_, ⟨?_, h2, ρ', S', Φ', hmk, fun x => ?_⟩, done (Dm :: s.dk) hj⟩
    · show _ :: a.defers = dfl (Dm :: s.dk)
      rw [h1]
      rfl
    · rw [← hml] at hr'
      exact hr'.rv _ _ (.inr ⟨x, (hslot x).symm, rfl⟩)
  · intro Dm c pre W _ _ h _
    exact h.elim
end Go.Proofs.YtabkpoklihkifaaDoor

/- The contracts of slices.Chunk and of the function that it returns. -/
namespace Go.Proofs.YtabkpoklihkifaaDoor
open Go Go.RowKit Go.Shelf
set_option linter.unusedVariables false
set_option linter.unusedSimpArgs false
attribute [local go_sem] Oper.semAt_some

theorem pcN_of {m n k : Nat} (hn : 0 < n) (h1 : ¬ k * n < m) (h2 : k = 0 ∨ (k - 1) * n < m) : pcN m n = k := by
  have a := mt (pcN_lt (m := m) (k := k) hn).1 h1
  rcases h2 with h2 | h2
  · omega
  · have := (pcN_lt hn).2 h2
    omega
theorem Keep2.trans_ {b1 b2 : Nat} {W wr W3 : World} {nq : Nat} (h : Keep2 b1 b2 W wr) (h' : Keep2 b1 b2 (wr.drewN nq) W3) : Keep2 b1 b2 W W3 := ⟨h'.1.trans h.1, h'.2.trans h.2⟩
theorem grew_ (w : World) (n : Nat) : w.grownBy (w.drewN n) none := ⟨rfl, rfl, rfl, Nat.le_refl _, fun _ _ _ => rfl⟩
set_option maxRecDepth 100000 in
theorem run_sl1 {w : World} {b off m cap i : Nat} (h1 : i ≤ m) : ∃ X, ∀ w, (Instr.sliceAt 24 (.slice (some ⟨b, off, none⟩) m cap) (some (.int .i64 (i : Int))) none none).run Tryd.prog w = .ok (.slice X (m - i) (cap - i)) w := by
  refine ⟨if cap = i then some ⟨b, off, none⟩ else some ⟨b, off + i, none⟩, fun w => ?_⟩
  rw [run_sliceAt_slice _ _ _ _ _ _ rfl, run_slice_l _ _ _ _ _ rfl _ _ (by omega) (by omega)]
  simp [sliced, add_lit, Result.andThen, go_sem]
set_option maxRecDepth 100000 in
theorem run_sl3 {b off m cap i j : Nat} (h1 : i < j) (h3 : j ≤ cap) (w : World) :
    (Instr.sliceAt 24 (.slice (some ⟨b, off, none⟩) m cap) (some (.int .i64 (i : Int))) (some (.int .i64 (j : Int))) (some (.int .i64 (j : Int)))).run Tryd.prog w = .ok (.slice (some ⟨b, off + i, none⟩) (j - i) (j - i)) w := by
  rw [run_sliceAt_slice _ _ _ _ _ _ rfl, run_slice_lhm _ _ _ _ _ rfl _ _ _ _ _ _ (by omega) (by omega) (by omega) (by omega)]
  simp [sliced, add_lit, Result.andThen, go_sem]
  omega
set_option maxRecDepth 100000 in
set_option maxHeartbeats 2000000 in
theorem chunk1_in (N n m b1 b2 b off cap l : Nat) (hN : 1 ≤ N) (hn0 : 0 < n) (hnb : n ≤ 4611686018427387904) (hm2 : m ≤ 140737488355328) (hmc : m ≤ cap) (J Jx : List (Ix_ m n) → World → Prop) (W : World) (hJ : AbidesFrom W.heap.size J)
    (hY : ∀ pre (x : Ix_ m n) W1, J pre W1 → pre.length < pcN m n → YieldAt Fence.wide (N - 1) Tryd.prog l #[.slice (some ⟨b, off + x.1 * n, none⟩) (min n (m - x.1 * n)) (min n (m - x.1 * n))] W1 fun e W' =>
      (e = .returned (.bool true) ∧ J (pre ++ [x]) W' ∧ Keep2 b1 b2 W1 W') ∨ (e = .returned (.bool false) ∧ Jx (pre ++ [x]) W'))
    (hc1 : W.cell? ⟨b1, 0, none⟩ = some (.slice (some ⟨b, off, none⟩) m cap)) (hc2 : W.cell? ⟨b2, 0, none⟩ = some (.int .i64 n)) (h0 : J [] W) :
    CallsIn Fence.wide N Tryd.prog 26 #[.func (.yield l) #[] #[], .pointer (some ⟨b1, 0, none⟩), .pointer (some ⟨b2, 0, none⟩)] W fun e W' => (∃ v, e = .returned v) ∧
      ((∃ xs : List (Ix_ m n), xs.map (·.1) = List.range (pcN m n) ∧ J xs W') ∨ (∃ pre, True ∧ Jx pre W')) := by
  refine callsIn_of_wp Tryd.func26 rfl trivial ?_ rfl
  simp only [Tryd.ntmps26, List.size_toArray, List.length_cons, List.length_nil, Nat.reduceAdd, Nat.reduceSub, Array.replicate_succ, Array.replicate_zero, List.push_toArray, List.append_toArray, List.nil_append, List.cons_append]
  gi_wp2
  gi_loopw [4, 5] (fun i _ wr => ∃ (k : Nat) (xs : List (Ix_ m n)), i = .int .i64 ((k * n : Nat) : Int) ∧ xs.map (·.1) = List.range k ∧ (k = 0 ∨ (k - 1) * n < m) ∧ J xs wr ∧ Keep2 b1 b2 W wr) (fun i _ _ => m + n - (intOf i).toNat)
  case atStart => exact ⟨0, [], by simp, rfl, .inl rfl, h0, ⟨rfl, rfl⟩⟩
  case round =>
    obtain ⟨k, xs, hi, hxs, hk, hJs, hkp⟩ := hrel
    have c1 := (World.cell?_of_block (a := ⟨b1, 0, none⟩) hkp.1).trans hc1
    have c2 := (World.cell?_of_block (a := ⟨b2, 0, none⟩) hkp.2).trans hc2
    obtain ⟨i, hik⟩ : ∃ i, i = k * n := ⟨_, rfl⟩
    rw [← hik] at hi
    subst hi
    by_cases hlt : i < m
    · obtain ⟨x, hx⟩ : ∃ x : Ix_ m n, x.1 = k := ⟨⟨k, by rw [← hik]; exact hlt⟩, rfl⟩
      have hY' := hY xs x
      rw [hx, ← hik] at hY'
      have hlen : xs.length = k := by
        have := congrArg List.length hxs
        simpa using this
      have hin : i + n ≤ 9223372036854775807 := by omega
      clear hk hc1 hc2 hY
      have HXS := Lib.hid hxs
      have HKP := Lib.hid hkp
      have HIK := Lib.hid hik
      have HLEN := Lib.hid hlen
      have HX := Lib.hid hx
      clear hik hlen hx hxs hkp
      gi_wp2
      obtain ⟨X16, h16⟩ := run_sl1 (w := wr) (b := b) (off := off) (cap := cap) (Nat.le_of_lt hlt)
      gi_quiet (fail)
      have hmin : (if m - i < n then ((m - i : Nat) : Int) else (n : Int)) = ((min n (m - i) : Nat) : Int) := by split <;> congr 1 <;> omega
      rw [hmin]
      have he0 : 0 < min n (m - i) := by omega
      have he1 : i + min n (m - i) ≤ m := by omega
      generalize min n (m - i) = e at *
      clear hmin h16
      have hq : xs.length < pcN m n := by rw [HLEN.out, pcN_lt hn0, ← HIK.out]; exact hlt
      obtain ⟨fn, tmps, assign, body, hy, hR⟩ := hY' (wr.drewN nq) (hJ _ _ _ none hJs (grew_ wr nq) (by simp)) hq
      have h28 : ∀ w, (Instr.sliceAt 24 (.slice (some ⟨b, off, none⟩) m cap) (some (.int .i64 (i : Int))) (some (.int .i64 ((i : Int) + (e : Int)))) (some (.int .i64 ((i : Int) + (e : Int))))).run Tryd.prog w = .ok (.slice (some ⟨b, off + i, none⟩) e e) w := fun w => by
        have := run_sl3 (b := b) (off := off) (m := m) (cap := cap) (i := i) (j := i + e) (by omega) (by omega) w
        rw [Nat.add_sub_cancel_left] at this
        exact this
      gi_wp2
      refine hR.mono ?_
      have hkeep : ∀ W', Keep2 b1 b2 (wr.drewN nq) W' → W'.cell? ⟨b1, 0, none⟩ = some (.slice (some ⟨b, off, none⟩) m cap) ∧ W'.cell? ⟨b2, 0, none⟩ = some (.int .i64 n) := fun W' h => ⟨(World.cell?_of_block (a := ⟨b1, 0, none⟩) h.1).trans c1, (World.cell?_of_block (a := ⟨b2, 0, none⟩) h.2).trans c2⟩
      clear h28 hY' hR hy hJs
      rintro e W3 (⟨rfl, hJ3, hk3⟩ | ⟨rfl, hJx3⟩)
      · obtain ⟨c3, c4⟩ := hkeep _ hk3
        have HKN := Lib.hid (Keep2.trans_ HKP.out hk3)
        clear hkeep hk3 c1 c2 HKP
        gi_wp2
        go_roundw
        case rel => exact ⟨k + 1, xs ++ [x], by rw [Nat.add_mul, Nat.one_mul, ← HIK.out, Int.natCast_add], by rw [List.map_append, HXS.out, List.range_succ]; simp [HX.out], .inr (by rw [Nat.add_sub_cancel, ← HIK.out]; exact hlt), hJ3, HKN.out⟩
        case measure => simp [intOf]; omega
      · gi_wp2
        refine bodyPost_ret (results_none rfl _ _ _) rfl ?_
        exact ⟨⟨_, rfl⟩, .inr ⟨_, trivial, hJx3⟩⟩
    · gi_wp2
      go_end0
      exact ⟨⟨_, rfl⟩, .inl ⟨_, by rw [hxs, pcN_of hn0 (by rw [← hik]; exact hlt) hk], hJs⟩⟩
set_option maxRecDepth 100000 in
set_option maxHeartbeats 2000000 in
theorem chunk0_in (N n b1 b2 cap l : Nat) (A : Option Addr) (J : List (Ix_ 0 n) → World → Prop) (W : World) (hn0 : 0 < n)
    (hc1 : W.cell? ⟨b1, 0, none⟩ = some (.slice A 0 cap)) (h0 : J [] W) :
    CallsIn Fence.wide N Tryd.prog 26 #[.func (.yield l) #[] #[], .pointer (some ⟨b1, 0, none⟩), .pointer (some ⟨b2, 0, none⟩)] W fun e W' => (∃ v, e = .returned v) ∧
      ∃ xs : List (Ix_ 0 n), xs.map (·.1) = List.range (pcN 0 n) ∧ J xs W' := by
  refine callsIn_of_wp Tryd.func26 rfl trivial ?_ rfl
  simp only [Tryd.ntmps26, List.size_toArray, List.length_cons, List.length_nil, Nat.reduceAdd, Nat.reduceSub, Array.replicate_succ, Array.replicate_zero, List.push_toArray, List.append_toArray, List.nil_append, List.cons_append]
  gi_wp2
  gi_loopw [4, 5] (fun i _ wr => i = .int .i64 0 ∧ wr = W) (fun i _ _ => 0)
  case atStart => exact ⟨rfl, rfl⟩
  case round =>
    obtain ⟨rfl, rfl⟩ := hrel
    gi_wp2
    go_end0
    exact ⟨⟨_, rfl⟩, [], by rw [pcN_of (k := 0) hn0 (by omega) (.inl rfl)]; rfl, h0⟩
set_option maxRecDepth 100000 in
theorem chunk_ok : ChunkOk Tryd.prog 26 := by
  refine ⟨⟨_, rfl, rfl, rfl⟩, fun n m b1 b2 A cap w hn0 hnb hm2 hmc hA hb1 hb2 hc1 hc2 => ?_⟩
  intro l J Jx W hW hJ _ hY h0
  have c1 := (hW.cell (p := ⟨b1, 0, none⟩) hb1).trans hc1
  have c2 := (hW.cell (p := ⟨b2, 0, none⟩) hb2).trans hc2
  by_cases hm : m = 0
  · subst hm
    exact (chunk0_in 4 n b1 b2 cap l A J W hn0 c1 h0).mono fun e W' ⟨h1, h2⟩ => ⟨h1, .inl h2⟩
  · obtain ⟨b, off, rfl⟩ := hA (by omega)
    refine chunk1_in 4 n m b1 b2 b off cap l (by omega) hn0 hnb hm2 hmc J Jx W hJ (fun pre x W1 h1 h2 => ?_) c1 c2 h0
    have := hY pre x W1 h1 h2
    simpa only [pv, add_lit] using this
theorem chunk_fc (G : Nat → Option D) (l : List UInt8) (n : Nat) (hn : 0 < n) : FC Tryd.prog G 16 [.rob l, .int .i64 n] (.chunk 26 l n) none := by
  intro w S vs Fs hS hG h1 h2 h3 h4 h5
  rcases vs with _ | ⟨v, _ | ⟨v2, _ | ⟨v3, vs⟩⟩⟩
  · simp at h1
  · simp at h1
  · rcases Fs with _ | ⟨F, _ | ⟨F2, _ | ⟨F3, Fs⟩⟩⟩
    · simp at h2
    · simp at h2
    · have hv := h3 0 _ v F rfl rfl rfl
      have hv2 := h3 1 _ v2 F2 rfl rfl rfl
      cases hv2
      cases hv with
      | rob _ A m cap h =>
        refine (?_ : Calls Tryd.prog 16 #[.slice A m cap, .int .i64 n] w (fun e w' => e = .returned (.func (.func 26) #[] #[.pointer (some ⟨w.heap.size, 0, none⟩), .pointer (some ⟨w.heap.size + 1, 0, none⟩)]) ∧ ∃ E1 E2, w' = (w.alloc (.cells #[.slice A m cap] E1)).alloc (.cells #[.int .i64 n] E2))).mono ?_
        · go_enter Tryd.func16, Tryd.ntmps16
          go_wp2
          go_ret
          exact ⟨rfl, _, _, rfl⟩
        · rintro e w' ⟨rfl, E1, E2, rfl⟩
          have es0 : (w.alloc (.cells #[.slice A m cap] E1)).heap.size = w.heap.size + 1 := World.size_alloc _ _
          have es : ((w.alloc (.cells #[.slice A m cap] E1)).alloc (.cells #[.int .i64 n] E2)).heap.size = w.heap.size + 2 := by rw [World.size_alloc, es0]
          have hb : ∀ b, b < w.heap.size → ((w.alloc (.cells #[.slice A m cap] E1)).alloc (.cells #[.int .i64 n] E2)).heap[b]? = w.heap[b]? := fun b hb => (Below.heap_alloc (w.alloc _) _ b (by omega)).trans (Below.heap_alloc w _ b hb)
          have e1 : ((w.alloc (.cells #[.slice A m cap] E1)).alloc (.cells #[.int .i64 n] E2)).heap[w.heap.size]? = some (.cells #[.slice A m cap] E1) := (Below.heap_alloc (w.alloc _) _ _ (by omega)).trans (heap_alloc_new w _)
          have e2 : ((w.alloc (.cells #[.slice A m cap] E1)).alloc (.cells #[.int .i64 n] E2)).heap[w.heap.size + 1]? = some (.cells #[.int .i64 n] E2) := by rw [← es0]; exact heap_alloc_new _ _
          have eo : ((w.alloc (.cells #[.slice A m cap] E1)).alloc (.cells #[.int .i64 n] E2)).os = w.os := rfl
          have et : ((w.alloc (.cells #[.slice A m cap] E1)).alloc (.cells #[.int .i64 n] E2)).tape = w.tape := rfl
          have ep : ((w.alloc (.cells #[.slice A m cap] E1)).alloc (.cells #[.int .i64 n] E2)).output = w.output := rfl
          generalize (w.alloc (.cells #[.slice A m cap] E1)).alloc (.cells #[.int .i64 n] E2) = W at hb e1 e2 es eo et ep
          have hSW : ∀ b, (S b ∨ b = w.heap.size ∨ b = w.heap.size + 1) → b < W.heap.size := fun b hb => by
            rcases hb with hb | rfl | rfl
            · have := hS.lt hb; omega
            · omega
            · omega
          refine ⟨_, [], [], fun b => S b ∨ b = w.heap.size ∨ b = w.heap.size + 1, rfl, eo, et, ep, by omega, Szs.same fun b hb' => hb b hb', fun b hb' _ => hb b hb', fun _ h => .inl h, fun b hb' => ⟨hSW b hb', ?_⟩, ?_, ?_, rfl, by simp, by simp⟩
          · rcases hb' with hb' | hb' | hb'
            · exact .inl hb'
            · exact .inr (.inl (by omega))
            · exact .inr (.inl (by omega))
          · intro b hb'
            rcases hb' with hb' | rfl | rfl
            · rw [hb b (hS.lt hb')]; exact hS b hb'
            · exact ⟨_, _, _, e1⟩
            · exact ⟨_, _, _, e2⟩
          · exact .chunk _ _ _ _ _ _ _ _ (.inr (.inl rfl)) (.inr (.inr rfl)) (h.mono (fun _ h => .inl h) fun b hb' => hb b (hS.lt hb')) (by simp [World.cell?, e1]) (by simp [World.cell?, e2])
    · simp at h2
  · simp at h1
end Go.Proofs.YtabkpoklihkifaaDoor

/- A shift of 64 bits that may drop bits; the function that hands out the pieces of an own row. -/
namespace Go.Proofs.YtabkpoklihkifaaDoor
open Go Go.RowKit
set_option linter.unusedVariables false
set_option linter.unusedSimpArgs false
/-- A shift to the left, of 64 bits. -/
def sw64 (a : Int) (n : Nat) : Int := IntKind.u64.wrap (a * 2 ^ min n 64)
section
variable {C : Ctx} {s : St} {ρ : Nat → Pl} {S : Nat → Prop} {Φ : Nat → List Nat} {w : World} {pos : String} {after : Array Edge} {gd : Option (Nat × Bool)} {ty : TypeId}
theorem eff_shw {dst : Option Tmp} (T T2 : TypeId) (x y : Operand) {a b : Int} {k : IntKind} (hx : ev C s x = .int .u64 a) (hy : ev C s y = .int k b) (h0 : 0 ≤ b) (hd : dstOk C.n dst) :
    Eff C ⟨dst, .binOp .shl T x y T2, ty, pos, after, gd⟩ s (.int .u64 (IntKind.u64.wrap (a * 2 ^ min b.toNat 64))) [] (opT x ++ opT y) [] :=
  eff_pure hd fun σ hT hR a' w ρ S Φ h1 h2 => by
    obtain ⟨q1, q2⟩ := opT2 (C := C) hT
    have vx := ev_rv h1 h2 x
    rw [q1, hx] at vx
    have vy := ev_rv h1 h2 y
    rw [q2, hy] at vy
    have e1 := inv_int vx
    have e2 := inv_int vy
    refine ⟨_, ?_, .int _ _⟩
    have h5 : (eqGuard .shl T x y (Value.int .u64 a) (Value.int k b)).run C.P w = .ok () w := rfl
    have h6 : (binOp .shl T (Value.int .u64 a) (Value.int k b)).run C.P w = .ok (.int .u64 (IntKind.u64.wrap (a * 2 ^ min b.toNat 64))) w := by
      have : ¬ b < 0 := by omega
      rw [binOp_shl]
      simp only [Op.shift, if_neg this]
      rfl
    simp [execOp, e1, e2, h5, h6]
variable {Ti : Nat → TI} {G : Nat → Option D} {n : Nat} {ops : Array Oper} {acc acc' : Acc} {rest rest' : List Oper} {s1 s2 : St} {K : Acc → St → Prop} {W : St → St → Prop}
/-- A shift of 64 bits to the left. -/
theorem SW_ {t : Nat} {T T2 : TypeId} {x y : Operand} {a b c : Int} {k : IntKind} (hE : Env C Ti G n) (hv : IntKind.u64.wrap (a * 2 ^ min b.toNat 64) = c) (hk : RG C ops W (([], []) :: acc) rest s2 K)
    (hx : frc (evg G s x) = some (.int .u64 a) := by exact rfl) (hy : frc (evg G s y) = some (.int k b) := by exact rfl) (h0 : 0 ≤ b := by first | decide | omega)
    (hc : gcO ops s gd = .yes := by exact rfl) (hb : dstB n (some t) = true := by exact rfl) (hs : s.puto (some t) (.int .u64 c) = s2 := by exact nr_) : RG C ops W acc (⟨some t, .binOp .shl T x y T2, ty, pos, after, gd⟩ :: rest) s K := by
  subst hs
  subst hv
  intro M hM hW hend
  have hx' := frc_ok hx
  have hy' := frc_ok hy
  rw [← hE.g, ← ev_g] at hx' hy'
  refine hM.step _ _ _ _ _ [] [] (effG_yes (o := ⟨some t, _, ty, pos, after, gd⟩) hc ((eff_shw T T2 x y hx' hy' h0 (dstB_ok hE hb)).weak ?_ (fun _ h => h))) (hk M hM hW hend)
  intro v hv
  simp only [opsT, Op.operands, List.mem_flatMap] at hv ⊢
  rcases List.mem_append.1 hv with hv | hv
  · exact ⟨x, by simp, hv⟩
  · exact ⟨y, by simp, hv⟩
theorem SWN_ {t : Nat} {T T2 : TypeId} {x y : Operand} {a b : Int} {k : IntKind} (hE : Env C Ti G n) (hk : RG C ops W (([], []) :: acc) rest s2 K)
    (hx : frc (evg G s x) = some (.int .u64 a) := by exact rfl) (hy : frc (evg G s y) = some (.int k b) := by exact rfl) (h0 : 0 ≤ b := by first | decide | omega)
    (hc : gcO ops s gd = .yes := by exact rfl) (hb : dstB n (some t) = true := by exact rfl) (hs : s.puto (some t) (.int .u64 (sw64 a b.toNat)) = s2 := by exact nr_) : RG C ops W acc (⟨some t, .binOp .shl T x y T2, ty, pos, after, gd⟩ :: rest) s K := SW_ hE rfl hk hx hy h0 hc hb hs
end
theorem chunk_calls (w : World) (A : Option Addr) (m cap n : Nat) : Calls Tryd.prog 16 #[.slice A m cap, .int .i64 (n + 1 : Nat)] w (fun e w' => e = .returned (.func (.func 26) #[] #[.pointer (some ⟨w.heap.size, 0, none⟩), .pointer (some ⟨w.heap.size + 1, 0, none⟩)]) ∧ ∃ E1 E2, w' = (w.alloc (.cells #[.slice A m cap] E1)).alloc (.cells #[.int .i64 (n + 1 : Nat)] E2)) := by
  have hn : 0 < n + 1 := by omega
  generalize n + 1 = n at *
  go_enter Tryd.func16, Tryd.ntmps16
  go_wp2
  go_ret
  exact ⟨rfl, _, _, rfl⟩
section
variable {C : Ctx} {s : St} {pos : String} {after : Array Edge} {gd : Option (Nat × Bool)} {ty : TypeId}
theorem eff_cho {dst : Option Tmp} {ts : Array TypeId} (x y : Operand) {o g off len m : Nat} (hP : C.P = Tryd.prog) (hx : ev C s x = .sl o g off len) (hy : ev C s y = .int .i64 (m + 1 : Nat)) (hg : g = (s.ob o).sh.gen) (hd : dstOk C.n dst) :
    Eff C ⟨dst, .call { callee := .value (.func 16), args := #[x, y], argTypes := ts }, ty, pos, after, gd⟩ s (.chunko 26 o g off len (m + 1)) [] (opT x ++ opT y) [o] := by
  intro σ hT hR K Q a w hrep hK
  obtain ⟨h1, h2, ρ, S, Φ, h3, h4⟩ := hrep
  obtain ⟨q1, q2⟩ := opT2 (C := C) hT
  have vx := ev_rv h3 h4 x
  rw [q1, hx] at vx
  have vy := ev_rv h3 h4 y
  rw [q2, hy] at vy
  have e2 := inv_int vy
  have hgs : g = (σ.sh o).gen := by unfold St.sh; rw [hR o (by simp)]; exact hg
  have hsl := inv_sl vx hgs
  obtain ⟨A, cap, e1, r1, r2, r3, r4⟩ := id hsl
  rw [e1] at hsl
  unfold Oper.wp
  have hrun : (execOp a.eval ⟨dst, .call { callee := .value (.func 16), args := #[x, y], argTypes := ts }, ty, pos, after, gd⟩).run C.P w = .ok (.enter 16 #[.slice A len cap, .int .i64 (m + 1 : Nat)]) w := by
    have hok : fnOk C.P 16 := by rw [hP]; exact ⟨_, Tryd.func16, rfl, rfl⟩
    simp only [execOp, resolve, Sem.run_bind]
    have hfv : a.eval (.func 16) = .func (.func 16) #[] #[] := rfl
    simp [Deferred.ofValue, hfv, invoke, run_callf hok, e1, e2]
  rw [hrun]
  show Calls _ _ _ _ _
  rw [hP]
  refine (chunk_calls w A len cap m).mono ?_
  rintro e w' ⟨rfl, E1, E2, rfl⟩
  have es0 : (w.alloc (.cells #[.slice A len cap] E1)).heap.size = w.heap.size + 1 := World.size_alloc _ _
  have es : ((w.alloc (.cells #[.slice A len cap] E1)).alloc (.cells #[.int .i64 (m + 1 : Nat)] E2)).heap.size = w.heap.size + 2 := by rw [World.size_alloc, es0]
  have hb : ∀ b, b < w.heap.size → ((w.alloc (.cells #[.slice A len cap] E1)).alloc (.cells #[.int .i64 (m + 1 : Nat)] E2)).heap[b]? = w.heap[b]? := fun b hb => (Below.heap_alloc (w.alloc _) _ b (by omega)).trans (Below.heap_alloc w _ b hb)
  have f1 : ((w.alloc (.cells #[.slice A len cap] E1)).alloc (.cells #[.int .i64 (m + 1 : Nat)] E2)).heap[w.heap.size]? = some (.cells #[.slice A len cap] E1) := (Below.heap_alloc (w.alloc _) _ _ (by omega)).trans (heap_alloc_new w _)
  have f2 : ((w.alloc (.cells #[.slice A len cap] E1)).alloc (.cells #[.int .i64 (m + 1 : Nat)] E2)).heap[w.heap.size + 1]? = some (.cells #[.int .i64 (m + 1 : Nat)] E2) := by rw [← es0]; exact heap_alloc_new _ _
  have eo : ((w.alloc (.cells #[.slice A len cap] E1)).alloc (.cells #[.int .i64 (m + 1 : Nat)] E2)).os = w.os := rfl
  have et : ((w.alloc (.cells #[.slice A len cap] E1)).alloc (.cells #[.int .i64 (m + 1 : Nat)] E2)).tape = w.tape := rfl
  have ep : ((w.alloc (.cells #[.slice A len cap] E1)).alloc (.cells #[.int .i64 (m + 1 : Nat)] E2)).output = w.output := rfl
  generalize (w.alloc (.cells #[.slice A len cap] E1)).alloc (.cells #[.int .i64 (m + 1 : Nat)] E2) = W at hb f1 f2 es eo et ep ⊢
  obtain ⟨g1, g2⟩ := h3.ext (w' := W) eo et ep (by omega) hb
  obtain ⟨g3, g4⟩ := g1.grow (S' := fun b => S b ∨ b = w.heap.size ∨ b = w.heap.size + 1) (fun _ h => .inl h) (fun b hb' => by
    rcases hb' with hb' | rfl | rfl
    · exact g1.s1 b hb'
    · exact ⟨by omega, .inr (.inl h3.size)⟩
    · exact ⟨by omega, .inr (.inl (by have := h3.size; omega))⟩) (fun o c hc b hb' hS => by
    have := (h3.own o c hc).2 b hb'
    rcases hS with hS | rfl | rfl
    · exact this.1 hS
    · omega
    · omega) (fun r hr hS => by
    have hlt := (Array.getElem?_eq_some_iff.1 (h3.dk r hr)).1
    rcases hS with hS | rfl | rfl
    · exact (h3.dkn.2 r hr).2 hS
    · omega
    · omega) (fun b hb' => by
    rcases hb' with hb' | rfl | rfl
    · exact g1.sc b hb'
    · exact ⟨_, _, _, f1⟩
    · exact ⟨_, _, _, f2⟩)
  exact hK _ _ (rep_put h1 h2 g3 (fun t => g4 _ _ (g2 _ _ (h4 t))) dst hd _ _ (.chunko _ _ _ _ _ _ _ _ A cap (.inr (.inl rfl)) (.inr (.inr rfl)) r1 (Nat.le_of_eq hgs) (fun _ => hsl) (by simp [World.cell?, f1]) (by simp [World.cell?, f2])))
variable {Ti : Nat → TI} {G : Nat → Option D} {n : Nat} {ops : Array Oper} {acc acc' : Acc} {rest rest' : List Oper} {s1 s2 : St} {K : Acc → St → Prop} {W : St → St → Prop}
/-- The pieces of an own row, in a region. -/
theorem CHO_ {sl : List (Nat × D)} {hp : List (Nat × Ob)} {dk : List Nat} {t : Nat} {x y : Operand} {ts : Array TypeId} {o g off len m : Nat} (hE : Env C Ti G n) (hP : C.P = Tryd.prog) (hk : RG C ops W (([], [o]) :: acc) rest s2 K)
    (hx : frc (evg G ⟨sl, hp, dk⟩ x) = some (.sl o g off len) := by exact rfl) (hy : frc (evg G ⟨sl, hp, dk⟩ y) = some (.int .i64 (m + 1 : Nat)) := by exact rfl) (hg : g = ((⟨sl, hp, dk⟩ : St).ob o).sh.gen := by exact rfl)
    (hc : gcO ops ⟨sl, hp, dk⟩ gd = .yes := by exact rfl) (hb : dstB n (some t) = true := by exact rfl) (hs : (⟨(t, .chunko 26 o g off len (m + 1)) :: sl, hp, dk⟩ : St) = s2 := by exact nr_) :
    RG C ops W acc (⟨some t, .call { callee := .value (.func 16), args := #[x, y], argTypes := ts }, ty, pos, after, gd⟩ :: rest) ⟨sl, hp, dk⟩ K := by
  subst hs
  intro M hM hW hend
  have hx' := frc_ok hx
  have hy' := frc_ok hy
  rw [← hE.g, ← ev_g] at hx' hy'
  refine hM.step _ _ _ _ _ [] [o] (effG_yes (o := ⟨some t, _, ty, pos, after, gd⟩) hc ((eff_cho x y hP hx' hy' hg (dstB_ok hE hb)).weak ?_ (fun _ h => h))) (hk M hM hW hend)
  intro z hz
  simp only [opsT, Op.operands, Call.operands, List.mem_flatMap] at hz ⊢
  rcases List.mem_append.1 hz with hz | hz
  · exact ⟨x, by simp, hz⟩
  · exact ⟨y, by simp, hz⟩
end
end Go.Proofs.YtabkpoklihkifaaDoor

/- A pointer to bytes of the call's own becomes a pointer to bytes that are only read; its slice. -/
namespace Go.Proofs.YtabkpoklihkifaaDoor
open Go Go.RowKit
set_option linter.unusedVariables false
set_option linter.unusedSimpArgs false
section
variable {C : Ctx} {s : St} {pos : String} {after : Array Edge} {gd : Option (Nat × Bool)} {ty : TypeId}
theorem wk_giveg (t o : Nat) {d : D} {c0 : Cont} (ho : (s.ob o).ct = some c0) (hv : ∀ w ρ S Φ v, RepW C s ρ S Φ w → RV w S ρ s.sh (s.slot t) v [] → RV w (Lent s ρ S Φ [o]) ρ s.sh d v []) : Wk C s ⟨(t, d) :: s.sl, (o, ⟨(s.ob o).sh, none⟩) :: s.hp, s.dk⟩ := by
  intro a w hr
  obtain ⟨h1, h2, ρ, S, Φ, h3, h4⟩ := hr
  have hown := h3.own o _ ho
  have hSS : ∀ b, S b → Lent s ρ S Φ [o] b := fun _ h => .inl h
  have hLe : ∀ b, Lent s ρ S Φ [o] b → S b ∨ b ∈ Φ o := fun b hb => by
    rcases hb with hb | ⟨x, hx, _, hb, _⟩
    · exact .inl hb
    · obtain rfl : x = o := by simpa using hx
      exact .inr hb
  have k1 := hv _ _ _ _ _ h3 (h4 t)
  have hm' : ∀ {e v F}, RV w S ρ s.sh e v F → RV w (Lent s ρ S Φ [o]) ρ s.sh e v F := fun hr => hr.mono hSS (fun _ _ => rfl) (fun _ => ⟨Nat.le_refl _, fun _ => ⟨rfl, rfl⟩⟩) (fun _ _ => rfl)
  have hobx : ∀ x, (⟨(t, d) :: s.sl, (o, ⟨(s.ob o).sh, none⟩) :: s.hp, s.dk⟩ : St).ob x = if x = o then ⟨(s.ob o).sh, none⟩ else s.ob x := fun x => by
    simp only [St.ob, look]
    by_cases hx : x = o
    · subst hx; simp
    · rw [if_neg (fun e => hx e.symm), if_neg hx]
  have hshe : (⟨(t, d) :: s.sl, (o, ⟨(s.ob o).sh, none⟩) :: s.hp, s.dk⟩ : St).sh = s.sh := by
    funext x
    unfold St.sh
    rw [hobx]
    split
    · rename_i e; subst e; rfl
    · rfl
  have hslot : ∀ x, (⟨(t, d) :: s.sl, (o, ⟨(s.ob o).sh, none⟩) :: s.hp, s.dk⟩ : St).slot x = if t = x then d else s.slot x := fun x => by simp only [St.slot, look]
  have hlive : ∀ x c, ((⟨(t, d) :: s.sl, (o, ⟨(s.ob o).sh, none⟩) :: s.hp, s.dk⟩ : St).ob x).ct = some c → x ≠ o ∧ (s.ob x).ct = some c := fun x c hx => by
    rw [hobx] at hx
    split at hx
    · cases hx
    · exact ⟨by assumption, hx⟩
  generalize hs' : (⟨(t, d) :: s.sl, (o, ⟨(s.ob o).sh, none⟩) :: s.hp, s.dk⟩ : St) = s' at *
  have hdk : s'.dk = s.dk := by rw [← hs']
  have hdkn : s.dk.Nodup ∧ ∀ r ∈ s.dk, C.w0.heap.size ≤ r ∧ ¬ Lent s ρ S Φ [o] r := ⟨h3.dkn.1, fun r hr => ⟨(h3.dkn.2 r hr).1, fun hb => by
    rcases hLe r hb with hb | hb
    · exact (h3.dkn.2 r hr).2 hb
    · exact (hown.2 r hb).2.2.2 hr⟩⟩
  have hrep : RepW C s' ρ (Lent s ρ S Φ [o]) Φ w := by
    refine ⟨h3.os, h3.tape, h3.output, h3.size, h3.szs, h3.fr, fun b hb => .inl (h3.s0 b hb), fun b hb => ?_, fun b hb => ?_, fun g c hg => by rw [hshe]; exact hm' (h3.gl g c hg), fun x c hx => ?_, fun e v hv => by rw [hshe]; exact hm' (h3.rv e v hv), by rw [hdk]; exact h3.dk, by rw [hdk]; exact hdkn, fun x c hx => ?_, fun x y c c' hx hy hne => h3.dis x y c c' (hlive x c hx).2 (hlive y c' hy).2 hne⟩
    · rcases hLe b hb with hb | hb
      · exact h3.s1 b hb
      · obtain ⟨_, q2, q3, _⟩ := hown.2 b hb
        rcases q3 with q3 | q3
        · exact ⟨q2, .inr (.inl q3)⟩
        · exact ⟨q2, .inr (.inr q3)⟩
    · rcases hLe b hb with hb | hb
      · exact h3.sc b hb
      · exact (h3.ob o _ ho).rows b hb
    · rw [hshe]
      exact (h3.ob x c (hlive x c hx).2).mono hSS (fun _ _ => rfl) (fun _ => ⟨Nat.le_refl _, fun _ => ⟨rfl, rfl⟩⟩) (fun _ _ => rfl)
    · rw [hdk]
      obtain ⟨hxo, hx'⟩ := hlive x c hx
      refine ⟨(h3.own x c hx').1, fun b hb => ?_⟩
      obtain ⟨q1, q2⟩ := (h3.own x c hx').2 b hb
      exact ⟨fun h => by rcases hLe b h with h | h; exact q1 h; exact h3.dis x o c _ hx' ho hxo b hb h, q2⟩
  refine ⟨by rw [hdk]; exact h1, h2, ρ, _, _, hrep, fun x => ?_⟩
  rw [hslot, hshe]
  split
  · rename_i e
    subst e
    exact k1
  · exact hm' (h4 x)
theorem kgivep {sl : List (Nat × D)} {hp : List (Nat × Ob)} {dk : List Nat} (t o : Nat) {sh : Sh} {l : List UInt8} {g off : Nat} (ho : (⟨sl, hp, dk⟩ : St).ob o = ⟨sh, some (.bytes l)⟩) (he : frc (look .bot sl t) = some (.ptr o g off)) (hg : g = sh.gen) (hl : Nat.blt 0 l.length = true) : Wk C ⟨sl, hp, dk⟩ ⟨(t, .rpb off l) :: sl, (o, ⟨sh, none⟩) :: hp, dk⟩ := by
  have hl' : 0 < l.length := by simpa [Nat.blt_eq] using hl
  have hsh : (⟨sl, hp, dk⟩ : St).sh o = sh := by unfold St.sh; rw [ho]
  have hoc : ((⟨sl, hp, dk⟩ : St).ob o).ct = some (.bytes l) := by rw [ho]
  have := wk_giveg (C := C) (s := ⟨sl, hp, dk⟩) t o (d := .rpb off l) hoc (fun w ρ S Φ v h hr => by
    rw [show (⟨sl, hp, dk⟩ : St).slot t = .ptr o g off from frc_ok he] at hr
    have hv := inv_ptr hr (by rw [hsh]; exact hg)
    subst hv
    obtain ⟨hcl, h2⟩ := h.ob o _ hoc
    rcases h2 with ⟨h1, _⟩ | ⟨cur, E, fz, Fs0, hh, hz, hs, hb, hF0, hct⟩
    · simp [Cont.len] at h1; subst h1; simp at hl'
    · exact .rpb off l (ρ o).blk (ρ o).base (lent_ok h [o] o (by simp) _ hoc (by simpa [Cont.len] using hl')) (fun i hi => by
        rw [cell_of_row w _ _ cur E fz hh]
        exact hct.2 i hi))
  rw [ho] at this
  exact this
theorem eff_rsl {dst : Option Tmp} {e : TypeId} {n k : Nat} {l : List UInt8} (T : TypeId) (x : Operand) (ht : (tiOf C.P T).ty = .arr n e) (hs : (tiOf C.P e).sz = 1) (hx : ev C s x = .rpb k l) (hn : k + n ≤ l.length) (hm : n ≤ maxLen) (hd : dstOk C.n dst) :
    Eff C ⟨dst, .slice T x none none none, ty, pos, after, gd⟩ s (.rob ((l.drop k).take n)) [] (opT x) [] :=
  eff_pure hd fun σ hT hR a w ρ S Φ h1 h2 => by
    have vx := ev_rv h1 h2 x
    rw [ev_same hT, hx] at vx
    generalize hv : a.eval x = v at vx
    cases vx with
    | rpb _ _ b base hb hc =>
      have hz : (tiOf C.P e).sz ≠ 0 := by omega
      have hrun := sat_arr (w := w) ht (a := ⟨b, base + k, none⟩) (lo := none) (hi := none) (l := none) (h := none) (.inl ⟨rfl, rfl⟩) (.inl ⟨rfl, rfl⟩) trivial (run_sz' hz)
      have ea : (if n = (lowI none).toNat then (⟨b, base + k, none⟩ : Addr) else Addr.add ⟨b, base + k, none⟩ ((lowI none).toNat * (tiOf C.P e).sz)) = ⟨b, base + k, none⟩ := by
        have e0 : (lowI none).toNat = 0 := rfl
        rw [e0, Nat.zero_mul]
        split
        · rfl
        · simp [add_lit]
      have e1 : (highI none n).toNat - (lowI none).toNat = n := by simp [highI, lowI]
      have e2 : n - (lowI none).toNat = n := by simp [lowI]
      rw [ea, e1, e2] at hrun
      refine ⟨.slice (some ⟨b, base + k, none⟩) n n, by simp [execOp, hv, hrun], .rob _ _ _ _ ⟨?_, Nat.le_refl _, hm, fun hpos => ⟨b, base + k, rfl, hb, fun i hi => ?_⟩⟩⟩
      · rw [List.length_take, List.length_drop]; omega
      · have := hc (k + i) (by omega)
        rw [Nat.add_assoc, this]
        congr 1
        unfold gb
        rw [List.getD_eq_getElem?_getD, List.getD_eq_getElem?_getD, List.getElem?_take, if_pos (by omega), List.getElem?_drop]
variable {Ti : Nat → TI} {G : Nat → Option D} {n : Nat} {ops : Array Oper} {acc acc' : Acc} {rest rest' : List Oper} {s1 s2 : St} {K : Acc → St → Prop} {W : St → St → Prop}
/-- The slice of read-only bytes, in a region. -/
theorem RSL_ {t : Nat} {T e : TypeId} {x : Operand} {m k : Nat} {l l' : List UInt8} (hE : Env C Ti G n) (hl : (l.drop k).take m = l') (hk : RG C ops W (([], []) :: acc) rest s2 K)
    (hn : k + m ≤ l.length) (ht : (Ti T).ty = .arr m e := by exact rfl) (hs1 : (Ti e).sz = 1 := by exact rfl) (hx : frc (evg G s x) = some (.rpb k l) := by exact rfl) (hm : m ≤ maxLen := by decide)
    (hc : gcO ops s gd = .yes := by exact rfl) (hb : dstB n (some t) = true := by exact rfl) (hs : s.puto (some t) (.rob l') = s2 := by exact nr_) : RG C ops W acc (⟨some t, .slice T x none none none, ty, pos, after, gd⟩ :: rest) s K := by
  subst hs
  subst hl
  intro M hM hW hend
  have hx' := frc_ok hx
  rw [← hE.g, ← ev_g] at hx'
  rw [← hE.ti] at ht hs1
  refine hM.step _ _ _ _ _ [] [] (effG_yes (o := ⟨some t, _, ty, pos, after, gd⟩) hc ((eff_rsl T x ht hs1 hx' hn hm (dstB_ok hE hb)).weak ?_ (fun _ h => h))) (hk M hM hW hend)
  intro v hv
  simp only [opsT, Op.operands, List.mem_flatMap] at hv ⊢
  exact ⟨x, by simp, hv⟩
end
end Go.Proofs.YtabkpoklihkifaaDoor
