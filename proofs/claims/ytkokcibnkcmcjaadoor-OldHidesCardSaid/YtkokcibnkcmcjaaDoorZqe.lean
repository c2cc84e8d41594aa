/- What the claim leans on, text Zqe: Rng, Chunk, Apz, Md8, Md9, Hid. No condition beyond what each lemma states. -/
import Derived.Test.YtkokcibnkcmcjaaDoorZk
import Derived.Test.YtkokcibnkcmcjaaDoorChecked
import Derived.RangeFuncBox
import Derived.RangeFuncLeaves
import Derived.Shelf.Abstract
import Derived.WalkKit
import Derived.OwnWalkIn
import Derived.TacticsInMore
import Derived.LoopNIn
import Derived.LoopIn
import Derived.Sort.QuietIn
import Derived.BigQuiet
import Derived.Deep.QuietTactic
import Derived.Lib.Hide
import Derived.Test.YtkokcibnkcmcjaaDoorZd
import Derived.Test.YtkokcibnkcmcjaaDoorZt
import Derived.Test.YtkokcibnkcmcjaaDoorZqc

/- A range over the pieces of a row of bytes. Over any program. -/
namespace Go.Proofs.YtkokcibnkcmcjaaDoor
open Go Go.RowKit
set_option linter.unusedVariables false
set_option linter.unusedSimpArgs false

/-- Piece k of n bytes. -/
def pc (l : List UInt8) (n k : Nat) : List UInt8 := (l.drop (k * n)).take n
/-- How many there are. -/
def pcN (m n : Nat) : Nat := (m + n - 1) / n
theorem pcN_lt {m n k : Nat} (hn : 0 < n) : k < pcN m n ↔ k * n < m := by
  unfold pcN
  rw [Nat.lt_div_iff_mul_lt hn]
  omega
theorem pcN_le {m n : Nat} (hn : 0 < n) : pcN m n ≤ m := by
  rcases Nat.lt_or_ge m (pcN m n) with h | h
  · have := (pcN_lt hn).1 h
    have := Nat.le_mul_of_pos_right m hn
    omega
  · exact h
/-- Piece k, as a value. -/
def pv (A : Option Addr) (m n k : Nat) : Value :=
  match A with
  | some a => .slice (some (a.add (k * n))) (min n (m - k * n)) (min n (m - k * n))
  | none => .slice none 0 0
def Ix_ (m n : Nat) := { k : Nat // k * n < m }
/-- What the iterator looks at. -/
def Keep2 (b1 b2 : Nat) (W W' : World) : Prop := W'.heap[b1]? = W.heap[b1]? ∧ W'.heap[b2]? = W.heap[b2]?
/-- The contract of the function that hands out pieces. -/
def ChunkOk (P : Program) (f : Nat) : Prop :=
  fnOk P f ∧ ∀ (n m b1 b2 : Nat) (A : Option Addr) (cap : Nat) (w : World), 0 < n → n ≤ 4611686018427387904 → m ≤ 140737488355328 → m ≤ cap → (0 < m → ∃ b off, A = some ⟨b, off, none⟩) → b1 < w.heap.size → b2 < w.heap.size → w.cell? ⟨b1, 0, none⟩ = some (.slice A m cap) → w.cell? ⟨b2, 0, none⟩ = some (.int .i64 n) →
    SeqStopsK Fence.wide 4 P f #[.pointer (some ⟨b1, 0, none⟩), .pointer (some ⟨b2, 0, none⟩)] (fun k : Ix_ m n => #[pv A m n k.1]) (Keep2 b1 b2) (fun xs => xs.map (·.1) = List.range (pcN m n)) (fun _ => True) (pcN m n) w

/-! A walk within a walk. -/
/-- The blocks of the live objects. -/
def ownL (s : St) (Φ : Nat → List Nat) : List Nat := (s.hp.map (·.1)).flatMap Φ
theorem ob_name {s : St} {o : Nat} {c : Cont} (h : (s.ob o).ct = some c) : o ∈ s.hp.map (·.1) := by
  by_cases ho : o ∈ s.hp.map (·.1)
  · exact ho
  · have : s.ob o = .no := look_none _ _ ho
    rw [this] at h
    cases h
/-- What a round may lean on: the state s, in the frame a and the world w. -/
def rctx (C : Ctx) (w : World) (S : Nat → Prop) (M : List Nat) (kp : D → Value → Prop) (rnd : Option Nat) : Ctx := ⟨C.P, w, M, S, C.G, C.gp, C.n, kp, rnd⟩
section
variable {C : Ctx} {s s' : St} {ρ ρ' : Nat → Pl} {S S' : Nat → Prop} {Φ Φ' : Nat → List Nat} {w w' : World} {kp : D → Value → Prop} {rnd : Option Nat}
theorem own_nd (h : RepW C s ρ S Φ w) {b : Nat} (hb : b ∈ ownL s Φ) (hl : ∀ o, o ∈ s.hp.map (·.1) → (s.ob o).ct = none → Φ o = []) : ∃ o c, (s.ob o).ct = some c ∧ b ∈ Φ o := by
  obtain ⟨o, ho, hbo⟩ := List.mem_flatMap.1 hb
  rcases hc : (s.ob o).ct with _ | c
  · rw [hl o ho hc] at hbo; cases hbo
  · exact ⟨o, c, hc, hbo⟩
/-- Objects that aren't alive own nothing. -/
def cln (s : St) (Φ : Nat → List Nat) : Nat → List Nat := fun o => if (s.ob o).ct.isSome then Φ o else []
theorem rep_cln (h : RepW C s ρ S Φ w) : RepW C s ρ S (cln s Φ) w := by
  have e : ∀ o c, (s.ob o).ct = some c → cln s Φ o = Φ o := fun o c hc => by unfold cln; rw [if_pos (by rw [hc]; rfl)]
  exact ⟨h.os, h.tape, h.output, h.size, h.szs, h.fr, h.s0, h.s1, h.sc, h.gl, fun o c hc => by rw [e o c hc]; exact h.ob o c hc, h.rv, h.dk, h.dkn, fun o c hc => by rw [e o c hc]; exact h.own o c hc,
    fun o o' c c' hc hc' hne => by rw [e o c hc, e o' c' hc']; exact h.dis o o' c c' hc hc' hne⟩
theorem cln_none (o : Nat) (h : (s.ob o).ct = none) : cln s Φ o = [] := by unfold cln; rw [h]; rfl
theorem ownL_cln (h : RepW C s ρ S (cln s Φ) w) {b : Nat} (hb : b ∈ ownL s (cln s Φ)) : ∃ o c, (s.ob o).ct = some c ∧ b ∈ cln s Φ o := own_nd h hb (fun o _ hc => cln_none o hc)
/-- In. -/
theorem rep_rin (h : RepW C s ρ S (cln s Φ) w) (hk : ∀ d v, kp d v → RV w S ρ s.sh d v []) : RepW (rctx C w S (ownL s (cln s Φ)) kp rnd) ⟨[], s.hp, []⟩ ρ S (cln s Φ) w :=
  ⟨rfl, rfl, rfl, Nat.le_refl _, Szs.refl w, fun _ _ _ => rfl, fun _ h => h, fun b hb => ⟨(h.s1 b hb).1, .inl hb⟩, h.sc, h.gl, h.ob, hk, by simp, ⟨by simp, by simp⟩,
    fun o c hc => ⟨(h.own o c hc).1, fun b hb => ⟨((h.own o c hc).2 b hb).1, ((h.own o c hc).2 b hb).2.1, .inr (List.mem_flatMap.2 ⟨o, ob_name hc, hb⟩), by simp⟩⟩, h.dis⟩
/-- Out. -/
theorem rep_rout (h : RepW C s ρ S (cln s Φ) w) (h' : RepW (rctx C w S (ownL s (cln s Φ)) kp rnd) s' ρ' S' Φ' w') (hk : ∀ d v, C.keep d v → kp d v) (hdk : s'.dk = []) : RepW C ⟨s'.sl, s'.hp, s.dk⟩ ρ' S' Φ' w' := by
  have hM : ∀ b ∈ ownL s (cln s Φ), ∃ o c, (s.ob o).ct = some c ∧ b ∈ cln s Φ o := fun b hb => ownL_cln h hb
  have hnM : ∀ b, S b → b ∉ ownL s (cln s Φ) := fun b hb hm => by
    obtain ⟨o, c, hc, hbo⟩ := hM b hm
    exact ((h.own o c hc).2 b hbo).1 hb
  have hfrom : ∀ b, (S b ∨ w.heap.size ≤ b ∨ b ∈ ownL s (cln s Φ)) → C.S0 b ∨ C.w0.heap.size ≤ b ∨ b ∈ C.M := fun b hb => by
    rcases hb with hb | hb | hb
    · exact (h.s1 b hb).2
    · exact .inr (.inl (Nat.le_trans h.size hb))
    · obtain ⟨o, c, hc, hbo⟩ := hM b hb
      exact .inr ((h.own o c hc).2 b hbo).2.2.1
  have hdkM : ∀ r ∈ s.dk, r ∉ ownL s (cln s Φ) ∧ r < w.heap.size := fun r hr => ⟨fun hm => by
    obtain ⟨o, c, hc, hbo⟩ := hM r hm
    exact ((h.own o c hc).2 r hbo).2.2.2 hr, (Array.getElem?_eq_some_iff.1 (h.dk r hr)).1⟩
  have hdk' : ∀ r ∈ s.dk, w'.heap[r]? = some (.deferred (some [])) := fun r hr => (h'.fr r (hdkM r hr).2 (hdkM r hr).1).trans (h.dk r hr)
  refine ⟨h'.os.trans h.os, h'.tape.trans h.tape, h'.output.trans h.output, Nat.le_trans h.size h'.size, h.szs.trans h'.szs, fun b hb hbM => ?_, fun b hb => h'.s0 b (h.s0 b hb), fun b hb => ⟨(h'.s1 b hb).1, hfrom b (h'.s1 b hb).2⟩, h'.sc, h'.gl, h'.ob, fun d v hv => h'.rv d v (hk d v hv), hdk', ⟨h.dkn.1, fun r hr => ⟨(h.dkn.2 r hr).1, fun hS => ?_⟩⟩, fun o c hc => ⟨(h'.own o c hc).1, fun b hb => ?_⟩, h'.dis⟩
  · have hbm : b ∉ ownL s (cln s Φ) := fun hm => by
      obtain ⟨o, c, hc, hbo⟩ := hM b hm
      rcases ((h.own o c hc).2 b hbo).2.2.1 with q | q
      · omega
      · exact hbM q
    exact (h'.fr b (Nat.lt_of_lt_of_le hb h.size) hbm).trans (h.fr b hb hbM)
  · obtain ⟨_, _, _, e⟩ := h'.sc r hS
    rw [hdk' r hr] at e
    cases e
  · obtain ⟨q1, q2, q3, q4⟩ := (h'.own o c hc).2 b hb
    refine ⟨q1, q2, ?_, fun hr => ?_⟩
    · rcases hfrom b (.inr q3) with q | q
      · rcases q3 with q3 | q3
        · exact .inl (Nat.le_trans h.size q3)
        · obtain ⟨o', c', hc', hbo⟩ := hM b q3
          exact ((h.own o' c' hc').2 b hbo).2.2.1
      · exact q
    · obtain ⟨_, _, _, e⟩ := (h'.ob o c hc).rows b hb
      rw [hdk' b hr] at e
      cases e
/-- One more mark. -/
theorem rep_mark (h : RepW C s ρ S Φ w) (D : Nat) (hD : C.w0.heap.size ≤ D) (hn : D ∉ s.dk) (hd : w.heap[D]? = some (.deferred (some []))) : RepW C ⟨s.sl, s.hp, D :: s.dk⟩ ρ S Φ w :=
  ⟨h.os, h.tape, h.output, h.size, h.szs, h.fr, h.s0, h.s1, h.sc, h.gl, h.ob, h.rv, fun r hr => by
    rcases List.mem_cons.1 hr with rfl | hr
    · exact hd
    · exact h.dk r hr, ⟨List.nodup_cons.2 ⟨hn, h.dkn.1⟩, fun r hr => by
    rcases List.mem_cons.1 hr with rfl | hr
    · refine ⟨hD, fun hS => ?_⟩
      obtain ⟨_, _, _, e⟩ := h.sc r hS
      rw [hd] at e
      cases e
    · exact h.dkn.2 r hr⟩, fun o c hc => ⟨(h.own o c hc).1, fun b hb => by
    obtain ⟨q1, q2, q3, q4⟩ := (h.own o c hc).2 b hb
    refine ⟨q1, q2, q3, fun hr => ?_⟩
    rcases List.mem_cons.1 hr with rfl | hr
    · obtain ⟨_, _, _, e⟩ := (h.ob o c hc).rows b hb
      rw [hd] at e
      cases e
    · exact q4 hr⟩, h.dis⟩
/-- What is no row may turn beyond the call's beginning. -/
theorem rep_grown (h : RepW C s ρ S Φ w) (hdk : s.dk = []) {row : Option Nat} (hg : w.grownBy w' row) (hr : ∀ r, row = some r → C.w0.heap.size ≤ r ∧ ∃ o : Obj, w.heap[r]? = some o ∧ o.isCells = false) : RepW C s ρ S Φ w' := by
  have hc : ∀ b, (∃ cur E fz, w.heap[b]? = some (Obj.cells cur E fz)) → w'.heap[b]? = w.heap[b]? := fun b ⟨cur, E, fz, e⟩ => hg.block b (Array.getElem?_eq_some_iff.1 e).1 (fun e' => by
    obtain ⟨_, o, h1, h2⟩ := hr b e'.symm
    rw [e] at h1
    injection h1 with h1
    subst h1
    cases h2)
  have hm : ∀ {d v}, RV w S ρ s.sh d v [] → RV w' S ρ s.sh d v [] := fun hr => hr.mono (fun _ h => h) (fun b hb => hc b (h.sc b hb)) (fun _ => ⟨Nat.le_refl _, fun _ => ⟨rfl, rfl⟩⟩) (by simp)
  refine ⟨hg.os.trans h.os, hg.tape.trans h.tape, hg.output.trans h.output, Nat.le_trans h.size hg.size, fun b cur E fz hb => ?_, fun b hb hbM => ?_, h.s0, fun b hb => ⟨Nat.lt_of_lt_of_le (h.s1 b hb).1 hg.size, (h.s1 b hb).2⟩, h.sc.same (fun b hb => hc b (h.sc b hb)), fun g cs hg' => hm (h.gl g cs hg'),
    fun o c ho => (h.ob o c ho).mono (fun _ h => h) (fun b hb => hc b (h.sc b hb)) (fun _ => ⟨Nat.le_refl _, fun _ => ⟨rfl, rfl⟩⟩) (fun b hb => hc b ((h.ob o c ho).rows b hb)), fun d v hv => hm (h.rv d v hv), by rw [hdk]; simp, by rw [hdk]; exact ⟨by simp, by simp⟩,
    fun o c ho => ⟨(h.own o c ho).1, fun b hb => ⟨((h.own o c ho).2 b hb).1, Nat.lt_of_lt_of_le ((h.own o c ho).2 b hb).2.1 hg.size, ((h.own o c ho).2 b hb).2.2⟩⟩, h.dis⟩
  · obtain ⟨cur', E', fz', k1, k2⟩ := h.szs b cur E fz hb
    exact ⟨cur', E', fz', (hc b ⟨_, _, _, k1⟩).trans k1, k2⟩
  · refine (hg.block b (Nat.lt_of_lt_of_le hb h.size) (fun e => ?_)).trans (h.fr b hb hbM)
    have := (hr b e.symm).1
    omega
end

/-! The rule. -/
def rq (C : Ctx) (s : St) (J : Prop) : Exit → St → Prop
  | .normal, s' => Wk C s' s ∧ J
  | _, _ => False
theorem rq_n {C : Ctx} {s s' : St} {J : Prop} (h : Wk C s' s) (hj : J) : rq C s J .normal s' := ⟨h, hj⟩
/-- A round's state: the slots are as they were. -/
theorem rdS_pv {w : World} {S : Nat → Prop} {A : Option Addr} {m cap n k : Nat} {l : List UInt8} (h : RdS w S A m cap l) (hk : k * n < m) : ∃ B e, pv A m n k = .slice B e e ∧ RdS w S B e e (pc l n k) := by
  obtain ⟨b, off, rfl, hb, hc⟩ := h.cells (by omega)
  refine ⟨_, _, rfl, ?_, Nat.le_refl _, ?_, fun h0 => ⟨b, off + k * n, by simp [add_lit], hb, fun i hi => ?_⟩⟩
  · unfold pc
    rw [List.length_take, List.length_drop, h.len]
  · have := h.le; have := h.max; omega
  · rw [Nat.add_assoc, hc (k * n + i) (by omega)]
    congr 2
    simp only [pc, gb, List.getD_eq_getElem?_getD, List.getElem?_take, List.getElem?_drop]
    rw [if_pos (by omega)]
theorem vf {C : Ctx} {Ti : Nat → TI} {G : Nat → Option D} {nt : Nat} (hE : Env C Ti G nt) {s0 : St} {sl : List (Nat × D)} {dk : List Nat} {t p q id f n : Nat} {l : List UInt8} {ty : TypeId} {pos : String} {af : Array Edge} {body : Code} {Q : Exit → St → Prop}
    (hrn : C.rnd = none) (hck : ChunkOk C.P f) (hn0 : 0 < n) (hnb : n ≤ 4611686018427387904) (hl : l.length ≤ 140737488355328) (hp1 : Nat.blt p nt = true) (hq1 : Nat.blt q nt = true)
    (I : List Nat → List (Nat × Ob)) (J : List Nat → Prop) (h0 : Wk C s0 ⟨sl, I [], dk⟩) (j0 : J []) (hg : frc (look .bot sl t) = some (.chunk f l n))
    (ns : List Nat) (hns : ∀ t, ∀ o ∈ (look .bot sl t).nm, o ∈ ns) (hkn : ∀ d v, C.keep d v → ∀ o ∈ d.nm, o ∈ ns)
    (round : ∀ (C' : Ctx) (pre : List Nat) (k : Nat), Env C' Ti G nt → C'.P = C.P → (∀ d v, C'.keep d v → ∀ o ∈ d.nm, o ∈ ns) → J pre → k * n < l.length → pre.length < pcN l.length n → VC C' body ⟨(q, .rob (pc l n k)) :: (p, .rob (pc l n k)) :: sl, I pre, []⟩ (rq C' ⟨[], I (pre ++ [k]), []⟩ (J (pre ++ [k]))))
    (done : ∀ dk', J (List.range (pcN l.length n)) → Q .normal ⟨sl, I (List.range (pcN l.length n)), dk'⟩) :
    VC C (.rangeFunc (.tmp t) #[p] (.region id #[⟨some q, .assign (.tmp p), ty, pos, af, none⟩] false) body) s0 Q := by
  intro m0 a w hr0
  rw [hrn]
  obtain ⟨h1, h2, ρ, S, Φ0, h3', h4⟩ := h0 a w hr0
  have h3 := rep_cln h3'
  generalize hs : (⟨sl, I [], dk⟩ : St) = s at *
  have hslot : ∀ x, s.slot x = look .bot sl x := fun x => by rw [← hs]; rfl
  have hsh : s.hp = I [] := by rw [← hs]
  have hsd : s.dk = dk := by rw [← hs]
  let kp : D → Value → Prop := fun d v => C.keep d v ∨ ∃ t, d = s.slot t ∧ v = a.tmps.getD t undef
  have hin : RepW (rctx C w S (ownL s (cln s Φ0)) kp none) ⟨[], s.hp, []⟩ ρ S (cln s Φ0) w := rep_rin h3 (fun d v hk => by
    rcases hk with hk | ⟨t, rfl, rfl⟩
    · exact h3.rv d v hk
    · exact h4 t)
  have hv := h4 t
  rw [hslot, frc_ok hg] at hv
  have hval : ∃ b1 b2 A m cap, a.tmps.getD t undef = .func (.func f) #[] #[.pointer (some ⟨b1, 0, none⟩), .pointer (some ⟨b2, 0, none⟩)] ∧ S b1 ∧ S b2 ∧ RdS w S A m cap l ∧ w.cell? ⟨b1, 0, none⟩ = some (.slice A m cap) ∧ w.cell? ⟨b2, 0, none⟩ = some (.int .i64 n) := by
    generalize a.tmps.getD t undef = v at hv
    cases hv with
    | chunk _ _ _ b1 b2 A m cap h1 h2 h hc1 hc2 => exact ⟨b1, b2, A, m, cap, rfl, h1, h2, h, hc1, hc2⟩
  obtain ⟨b1, b2, A, m, cap, hval, hS1, hS2, hRd, hc1, hc2⟩ := hval
  have hml : l.length = m := hRd.len
  have hlt1 := h3.sc.lt hS1
  have hlt2 := h3.sc.lt hS2
  have hev : a.eval (.tmp t) = .func (.func f) #[] #[.pointer (some ⟨b1, 0, none⟩), .pointer (some ⟨b2, 0, none⟩)] := hval
  have hA : 0 < m → ∃ b off, A = some ⟨b, off, none⟩ := fun h => by
    obtain ⟨b, off, e, _⟩ := hRd.cells h
    exact ⟨_, _, e⟩
  let Iw : List (Ix_ m n) → World → Prop := fun pre W => J (pre.map (·.1)) ∧ ∃ ρ S' Φ, RepW (rctx C w S (ownL s (cln s Φ0)) kp none) ⟨[], I (pre.map (·.1)), []⟩ ρ S' Φ W
  have hnt : C.n = nt := hE.n
  have hpn : p < a.tmps.size := by rw [h2, hnt]; simpa [Nat.blt_eq] using hp1
  have hqn : q < a.tmps.size := by rw [h2, hnt]; simpa [Nat.blt_eq] using hq1
  refine (wpIn_wide (n := m0)).2 ((wpIn_wide (n := 5)).1 (wpIn_rangeFunc_ownH (F := Fence.wide) (n := 5) (w0 := w) rfl (by decide) hev trivial (fun args w => run_callf hck.1 args) (hck.2 n m b1 b2 A cap w hn0 hnb (by rw [← hml]; exact hl) hRd.le hA hlt1 hlt2 hc1 hc2)
    (fun {a b c} h h' => ⟨h'.1.trans h.1, h'.2.trans h.2⟩) (fun W x o o' hx _ _ _ => ⟨World.putObj_heap_other (by omega), World.putObj_heap_other (by omega)⟩) (Below.refl _ _) (fun _ => rfl) Iw (fun _ _ _ => False)
    (fun pre W W' row hi hgr hrow => ⟨hi.1, by obtain ⟨ρ, S', Φ, hr⟩ := hi.2; exact ⟨ρ, S', Φ, rep_grown hr rfl hgr hrow⟩⟩) (fun _ _ _ _ _ h _ _ => h.elim) ⟨j0, ρ, S, cln s Φ0, by rw [hsh] at hin; exact hin⟩
    (fun x a' _ => a' = { tmps := (a.tmps.setIfInBounds p (pv A m n x.1)).setIfInBounds q (pv A m n x.1), defers := [] }) (fun _ _ _ _ _ _ h _ _ => h) ?_ ?_ ?_ ?_))
  · -- the assignment
    intro lr pre x W K hi hK
    refine wpIn_region_list ?_
    show wpListIn _ _ _ _ _ [_] _ _
    unfold wpListIn
    refine step_in (l := some lr) (fun c e => by cases e) ?_
    rw [if_pos (by simp [Region.wanted])]
    have he : ({ tmps := (#[p].zip #[pv A m n x.1]).foldl (fun t (p, v) => t.setIfInBounds p v) a.tmps, defers := [] } : Act) = { tmps := a.tmps.setIfInBounds p (pv A m n x.1), defers := [] } := by simp
    rw [he]
    have hev2 : ({ tmps := a.tmps.setIfInBounds p (pv A m n x.1), defers := [] } : Act).eval (.tmp p) = pv A m n x.1 := by
      show (a.tmps.setIfInBounds p (pv A m n x.1)).getD p undef = _
      rw [getD_set hpn, if_pos rfl]
    refine wp_value (v := pv A m n x.1) (w' := W) (by simp [execOp, hev2]) ?_
    exact hK _ W (KeepsFrom.refl _ _) ⟨rfl, rfl⟩ hi rfl
  · -- the body
    intro lr pre x a' W hlr hrec hi hax hlen
    obtain ⟨hj, ρ1, S1, Φ1, hr1⟩ := hi
    have hr1c := rep_cln hr1
    have hkn' : ∀ d v, kp d v → ∀ o ∈ d.nm, o ∈ ns := fun d v hk => by
      rcases hk with hk | ⟨t, rfl, _⟩
      · exact hkn d v hk
      · rw [hslot]; exact hns t
    have hin2 := rep_rin (rnd := some lr) hr1c (fun d v hk => hr1c.rv d v hk)
    have hb1 : W.heap[b1]? = w.heap[b1]? := hr1c.fr b1 hlt1 (fun hm => by
      obtain ⟨o, c, hc, hbo⟩ := ownL_cln h3 hm
      exact ((h3.own o c hc).2 b1 hbo).1 hS1)
    obtain ⟨B, e0, hpv, hrd⟩ := rdS_pv (n := n) (show RdS W S1 A m cap l from by
      have := hr1c.rv (.chunk f l n) (a.tmps.getD t undef) (.inr ⟨t, by rw [hslot, frc_ok hg], rfl⟩)
      rw [hval] at this
      cases this with
      | chunk _ _ _ _ _ A' m' cap' _ _ h hc1' hc2' =>
        rw [World.cell?_of_block (a := ⟨b1, 0, none⟩) hb1, hc1] at hc1'
        injection hc1' with hc1'
        injection hc1' with q1 q2 q3
        subst q1; subst q2; subst q3
        exact h) x.2
    let C2 : Ctx := rctx (rctx C w S (ownL s (cln s Φ0)) kp none) W S1 (ownL ⟨[], I (pre.map (·.1)), []⟩ (cln ⟨[], I (pre.map (·.1)), []⟩ Φ1)) kp (some lr)
    have hrep : Rep C2 ⟨(q, .rob (pc l n x.1)) :: (p, .rob (pc l n x.1)) :: sl, I (pre.map (·.1)), []⟩ a' W := by
      subst hax
      refine ⟨rfl, (by show _ = C.n; simpa using h2), ρ1, S1, _, hin2.congr (fun _ => rfl) rfl, fun t' => ?_⟩
      show RV W S1 ρ1 _ (look .bot ((q, .rob (pc l n x.1)) :: (p, .rob (pc l n x.1)) :: sl) t') (((a.tmps.setIfInBounds p (pv A m n x.1)).setIfInBounds q (pv A m n x.1)).getD t' undef) []
      rw [getD_set (by simpa using hqn), getD_set hpn]
      simp only [look]
      by_cases e1 : q = t'
      · rw [if_pos e1, if_pos (show t' = q from e1.symm), hpv]; exact .rob _ _ _ _ hrd
      · rw [if_neg e1, if_neg (show ¬ t' = q from fun e => e1 e.symm)]
        by_cases e2 : p = t'
        · rw [if_pos e2, if_pos (show t' = p from e2.symm), hpv]; exact .rob _ _ _ _ hrd
        · rw [if_neg e2, if_neg (show ¬ t' = p from fun e => e2 e.symm)]
          exact hin2.rv _ _ (.inr ⟨t', (hslot t').symm, rfl⟩)
    have hvc := round C2 (pre.map (·.1)) x.1 ⟨hE.ti, hE.g, hE.n⟩ rfl hkn' hj (by rw [hml]; exact x.2) (by rw [hml, List.length_map]; exact hlen) 3 a' W hrep
    refine wpIn_mono hvc ?_
    rintro e a2 W2 ⟨s2, k1, k2⟩
    cases e with
    | normal =>
      obtain ⟨hwk, hj2⟩ := k2
      obtain ⟨_, _, ρ2, S2, Φ2, hr2, _⟩ := hwk a2 W2 k1
      have hnM : ∀ b, S1 b → b ∉ ownL ⟨[], I (pre.map (·.1)), []⟩ (cln ⟨[], I (pre.map (·.1)), []⟩ Φ1) := fun b hb hm => by
        obtain ⟨o, c, hc, hbo⟩ := ownL_cln hr1c hm
        exact ((hr1c.own o c hc).2 b hbo).1 hb
      have hout := rep_rout hr1c hr2 (fun d v h => h) rfl
      refine ⟨⟨hr2.size, fun k o hk hko hcl => ?_⟩, ⟨hr2.fr b1 ?_ ?_, hr2.fr b2 ?_ ?_⟩, by rw [List.map_append]; exact hj2, ρ2, S2, Φ2, by rw [List.map_append]; exact hout⟩
      · refine (hr2.fr k (Array.getElem?_eq_some_iff.1 hko).1 (fun hm => ?_)).trans hko
        obtain ⟨o', c, hc, hbo⟩ := ownL_cln hr1c hm
        obtain ⟨_, _, _, e⟩ := (hr1c.ob o' c hc).rows k hbo
        rw [hko] at e
        injection e with e
        subst e
        cases hcl
      · exact (hr1c.s1 b1 (hr1c.s0 b1 hS1)).1
      · exact hnM b1 (hr1c.s0 b1 hS1)
      · exact (hr1c.s1 b2 (hr1c.s0 b2 hS2)).1
      · exact hnM b2 (hr1c.s0 b2 hS2)
    | _ => exact k2.elim
  · -- behind the loop
    intro Dm xs W hD hSx hi hDef
    obtain ⟨hj, ρ', S', Φ', hr'⟩ := hi
    rw [hSx] at hj hr'
    have hout := rep_rout h3 hr' (fun d v h => .inl h) rfl
    have hout2 := hout.congr (s' := ⟨sl, I (List.range (pcN m n)), s.dk⟩) (fun _ => rfl) rfl
    have hmk := rep_mark hout2 Dm (Nat.le_trans h3.size hD) (fun hm => by
      have := (Array.getElem?_eq_some_iff.1 (h3.dk Dm hm)).1
      omega) hDef
    rw [← hml] at hmk hj
    refine ⟨_, ⟨?_, h2, ρ', S', Φ', hmk, fun x => ?_⟩, done (Dm :: s.dk) hj⟩
    · show _ :: a.defers = dfl (Dm :: s.dk)
      rw [h1]
      rfl
    · rw [← hml] at hr'
      exact hr'.rv _ _ (.inr ⟨x, (hslot x).symm, rfl⟩)
  · intro Dm c pre W _ _ h _
    exact h.elim
end Go.Proofs.YtkokcibnkcmcjaaDoor

/- The contracts of slices.Chunk and of the function that it returns. -/
namespace Go.Proofs.YtkokcibnkcmcjaaDoor
open Go Go.RowKit Go.Shelf
set_option linter.unusedVariables false
set_option linter.unusedSimpArgs false
attribute [local go_sem] Oper.semAt_some

theorem pcN_of {m n k : Nat} (hn : 0 < n) (h1 : ¬ k * n < m) (h2 : k = 0 ∨ (k - 1) * n < m) : pcN m n = k := by
  have a := mt (pcN_lt (m := m) (k := k) hn).1 h1
  rcases h2 with h2 | h2
  · omega
  · have := (pcN_lt hn).2 h2
    omega
theorem Keep2.trans_ {b1 b2 : Nat} {W wr W3 : World} {nq : Nat} (h : Keep2 b1 b2 W wr) (h' : Keep2 b1 b2 (wr.drewN nq) W3) : Keep2 b1 b2 W W3 := ⟨h'.1.trans h.1, h'.2.trans h.2⟩
theorem grew_ (w : World) (n : Nat) : w.grownBy (w.drewN n) none := ⟨rfl, rfl, rfl, Nat.le_refl _, fun _ _ _ => rfl⟩
set_option maxRecDepth 100000 in
theorem run_sl1 {w : World} {b off m cap i : Nat} (h1 : i ≤ m) : ∃ X, ∀ w, (Instr.sliceAt 27 (.slice (some ⟨b, off, none⟩) m cap) (some (.int .i64 (i : Int))) none none).run Tryd.prog w = .ok (.slice X (m - i) (cap - i)) w := by
  refine ⟨if cap = i then some ⟨b, off, none⟩ else some ⟨b, off + i, none⟩, fun w => ?_⟩
  rw [run_sliceAt_slice _ _ _ _ _ _ rfl, run_slice_l _ _ _ _ _ rfl _ _ (by omega) (by omega)]
  simp [sliced, add_lit, Result.andThen, go_sem]
set_option maxRecDepth 100000 in
theorem run_sl3 {b off m cap i j : Nat} (h1 : i < j) (h3 : j ≤ cap) (w : World) :
    (Instr.sliceAt 27 (.slice (some ⟨b, off, none⟩) m cap) (some (.int .i64 (i : Int))) (some (.int .i64 (j : Int))) (some (.int .i64 (j : Int)))).run Tryd.prog w = .ok (.slice (some ⟨b, off + i, none⟩) (j - i) (j - i)) w := by
  rw [run_sliceAt_slice _ _ _ _ _ _ rfl, run_slice_lhm _ _ _ _ _ rfl _ _ _ _ _ _ (by omega) (by omega) (by omega) (by omega)]
  simp [sliced, add_lit, Result.andThen, go_sem]
  omega
set_option maxRecDepth 100000 in
set_option maxHeartbeats 2000000 in
theorem chunk1_in (N n m b1 b2 b off cap l : Nat) (hN : 1 ≤ N) (hn0 : 0 < n) (hnb : n ≤ 4611686018427387904) (hm2 : m ≤ 140737488355328) (hmc : m ≤ cap) (J Jx : List (Ix_ m n) → World → Prop) (W : World) (hJ : AbidesFrom W.heap.size J)
    (hY : ∀ pre (x : Ix_ m n) W1, J pre W1 → pre.length < pcN m n → YieldAt Fence.wide (N - 1) Tryd.prog l #[.slice (some ⟨b, off + x.1 * n, none⟩) (min n (m - x.1 * n)) (min n (m - x.1 * n))] W1 fun e W' =>
      (e = .returned (.bool true) ∧ J (pre ++ [x]) W' ∧ Keep2 b1 b2 W1 W') ∨ (e = .returned (.bool false) ∧ Jx (pre ++ [x]) W'))
    (hc1 : W.cell? ⟨b1, 0, none⟩ = some (.slice (some ⟨b, off, none⟩) m cap)) (hc2 : W.cell? ⟨b2, 0, none⟩ = some (.int .i64 n)) (h0 : J [] W) :
    CallsIn Fence.wide N Tryd.prog 90 #[.func (.yield l) #[] #[], .pointer (some ⟨b1, 0, none⟩), .pointer (some ⟨b2, 0, none⟩)] W fun e W' => (∃ v, e = .returned v) ∧
      ((∃ xs : List (Ix_ m n), xs.map (·.1) = List.range (pcN m n) ∧ J xs W') ∨ (∃ pre, True ∧ Jx pre W')) := by
  refine callsIn_of_wp Tryd.func90 rfl trivial ?_ rfl
  simp only [Tryd.ntmps90, List.size_toArray, List.length_cons, List.length_nil, Nat.reduceAdd, Nat.reduceSub, Array.replicate_succ, Array.replicate_zero, List.push_toArray, List.append_toArray, List.nil_append, List.cons_append]
  gi_wp2
  gi_loopw [4, 5] (fun i _ wr => ∃ (k : Nat) (xs : List (Ix_ m n)), i = .int .i64 ((k * n : Nat) : Int) ∧ xs.map (·.1) = List.range k ∧ (k = 0 ∨ (k - 1) * n < m) ∧ J xs wr ∧ Keep2 b1 b2 W wr) (fun i _ _ => m + n - (intOf i).toNat)
  case atStart => exact ⟨0, [], by simp, rfl, .inl rfl, h0, ⟨rfl, rfl⟩⟩
  case round =>
    obtain ⟨k, xs, hi, hxs, hk, hJs, hkp⟩ := hrel
    have c1 := (World.cell?_of_block (a := ⟨b1, 0, none⟩) hkp.1).trans hc1
    have c2 := (World.cell?_of_block (a := ⟨b2, 0, none⟩) hkp.2).trans hc2
    obtain ⟨i, hik⟩ : ∃ i, i = k * n := ⟨_, rfl⟩
    rw [← hik] at hi
    subst hi
    by_cases hlt : i < m
    · obtain ⟨x, hx⟩ : ∃ x : Ix_ m n, x.1 = k := ⟨⟨k, by rw [← hik]; exact hlt⟩, rfl⟩
      have hY' := hY xs x
      rw [hx, ← hik] at hY'
      have hlen : xs.length = k := by
        have := congrArg List.length hxs
        simpa using this
      have hin : i + n ≤ 9223372036854775807 := by omega
      clear hk hc1 hc2 hY
      have HXS := Lib.hid hxs
      have HKP := Lib.hid hkp
      have HIK := Lib.hid hik
      have HLEN := Lib.hid hlen
      have HX := Lib.hid hx
      clear hik hlen hx hxs hkp
      gi_wp2
      obtain ⟨X16, h16⟩ := run_sl1 (w := wr) (b := b) (off := off) (cap := cap) (Nat.le_of_lt hlt)
      gi_quiet (fail)
      have hmin : (if m - i < n then ((m - i : Nat) : Int) else (n : Int)) = ((min n (m - i) : Nat) : Int) := by split <;> congr 1 <;> omega
      rw [hmin]
      have he0 : 0 < min n (m - i) := by omega
      have he1 : i + min n (m - i) ≤ m := by omega
      generalize min n (m - i) = e at *
      clear hmin h16
      have hq : xs.length < pcN m n := by rw [HLEN.out, pcN_lt hn0, ← HIK.out]; exact hlt
      obtain ⟨fn, tmps, assign, body, hy, hR⟩ := hY' (wr.drewN nq) (hJ _ _ _ none hJs (grew_ wr nq) (by simp)) hq
      have h28 : ∀ w, (Instr.sliceAt 27 (.slice (some ⟨b, off, none⟩) m cap) (some (.int .i64 (i : Int))) (some (.int .i64 ((i : Int) + (e : Int)))) (some (.int .i64 ((i : Int) + (e : Int))))).run Tryd.prog w = .ok (.slice (some ⟨b, off + i, none⟩) e e) w := fun w => by
        have := run_sl3 (b := b) (off := off) (m := m) (cap := cap) (i := i) (j := i + e) (by omega) (by omega) w
        rw [Nat.add_sub_cancel_left] at this
        exact this
      gi_wp2
      refine hR.mono ?_
      have hkeep : ∀ W', Keep2 b1 b2 (wr.drewN nq) W' → W'.cell? ⟨b1, 0, none⟩ = some (.slice (some ⟨b, off, none⟩) m cap) ∧ W'.cell? ⟨b2, 0, none⟩ = some (.int .i64 n) := fun W' h => ⟨(World.cell?_of_block (a := ⟨b1, 0, none⟩) h.1).trans c1, (World.cell?_of_block (a := ⟨b2, 0, none⟩) h.2).trans c2⟩
      clear h28 hY' hR hy hJs
      rintro e W3 (⟨rfl, hJ3, hk3⟩ | ⟨rfl, hJx3⟩)
      · obtain ⟨c3, c4⟩ := hkeep _ hk3
        have HKN := Lib.hid (Keep2.trans_ HKP.out hk3)
        clear hkeep hk3 c1 c2 HKP
        gi_wp2
        go_roundw
        case rel => exact ⟨k + 1, xs ++ [x], by rw [Nat.add_mul, Nat.one_mul, ← HIK.out, Int.natCast_add], by rw [List.map_append, HXS.out, List.range_succ]; simp [HX.out], .inr (by rw [Nat.add_sub_cancel, ← HIK.out]; exact hlt), hJ3, HKN.out⟩
        case measure => simp [intOf]; omega
      · gi_wp2
        refine bodyPost_ret (results_none rfl _ _ _) rfl ?_
        exact ⟨⟨_, rfl⟩, .inr ⟨_, trivial, hJx3⟩⟩
    · gi_wp2
      go_end0
      exact ⟨⟨_, rfl⟩, .inl ⟨_, by rw [hxs, pcN_of hn0 (by rw [← hik]; exact hlt) hk], hJs⟩⟩
set_option maxRecDepth 100000 in
set_option maxHeartbeats 2000000 in
theorem chunk0_in (N n b1 b2 cap l : Nat) (A : Option Addr) (J : List (Ix_ 0 n) → World → Prop) (W : World) (hn0 : 0 < n)
    (hc1 : W.cell? ⟨b1, 0, none⟩ = some (.slice A 0 cap)) (h0 : J [] W) :
    CallsIn Fence.wide N Tryd.prog 90 #[.func (.yield l) #[] #[], .pointer (some ⟨b1, 0, none⟩), .pointer (some ⟨b2, 0, none⟩)] W fun e W' => (∃ v, e = .returned v) ∧
      ∃ xs : List (Ix_ 0 n), xs.map (·.1) = List.range (pcN 0 n) ∧ J xs W' := by
  refine callsIn_of_wp Tryd.func90 rfl trivial ?_ rfl
  simp only [Tryd.ntmps90, List.size_toArray, List.length_cons, List.length_nil, Nat.reduceAdd, Nat.reduceSub, Array.replicate_succ, Array.replicate_zero, List.push_toArray, List.append_toArray, List.nil_append, List.cons_append]
  gi_wp2
  gi_loopw [4, 5] (fun i _ wr => i = .int .i64 0 ∧ wr = W) (fun i _ _ => 0)
  case atStart => exact ⟨rfl, rfl⟩
  case round =>
    obtain ⟨rfl, rfl⟩ := hrel
    gi_wp2
    go_end0
    exact ⟨⟨_, rfl⟩, [], by rw [pcN_of (k := 0) hn0 (by omega) (.inl rfl)]; rfl, h0⟩
theorem chunk_ok : ChunkOk Tryd.prog 90 := by
  refine ⟨⟨_, rfl, rfl, rfl⟩, fun n m b1 b2 A cap w hn0 hnb hm2 hmc hA hb1 hb2 hc1 hc2 => ?_⟩
  intro l J Jx W hW hJ _ hY h0
  have c1 := (hW.cell (p := ⟨b1, 0, none⟩) hb1).trans hc1
  have c2 := (hW.cell (p := ⟨b2, 0, none⟩) hb2).trans hc2
  by_cases hm : m = 0
  · subst hm
    exact (chunk0_in 4 n b1 b2 cap l A J W hn0 c1 h0).mono fun e W' ⟨h1, h2⟩ => ⟨h1, .inl h2⟩
  · obtain ⟨b, off, rfl⟩ := hA (by omega)
    refine chunk1_in 4 n m b1 b2 b off cap l (by omega) hn0 hnb hm2 hmc J Jx W hJ (fun pre x W1 h1 h2 => ?_) c1 c2 h0
    have := hY pre x W1 h1 h2
    simpa only [pv, add_lit] using this
theorem chunk_fc (G : Nat → Option D) (l : List UInt8) (n : Nat) (hn : 0 < n) : FC Tryd.prog G 83 [.rob l, .int .i64 n] (.chunk 90 l n) none := by
  intro w S vs Fs hS hG h1 h2 h3 h4 h5
  rcases vs with _ | ⟨v, _ | ⟨v2, _ | ⟨v3, vs⟩⟩⟩
  · simp at h1
  · simp at h1
  · rcases Fs with _ | ⟨F, _ | ⟨F2, _ | ⟨F3, Fs⟩⟩⟩
    · simp at h2
    · simp at h2
    · have hv := h3 0 _ v F rfl rfl rfl
      have hv2 := h3 1 _ v2 F2 rfl rfl rfl
      cases hv2
      cases hv with
      | rob _ A m cap h =>
        refine (?_ : Calls Tryd.prog 83 #[.slice A m cap, .int .i64 n] w (fun e w' => e = .returned (.func (.func 90) #[] #[.pointer (some ⟨w.heap.size, 0, none⟩), .pointer (some ⟨w.heap.size + 1, 0, none⟩)]) ∧ ∃ E1 E2, w' = (w.alloc (.cells #[.slice A m cap] E1)).alloc (.cells #[.int .i64 n] E2))).mono ?_
        · go_enter Tryd.func83, Tryd.ntmps83
          go_wp2
          go_ret
          exact ⟨rfl, _, _, rfl⟩
        · rintro e w' ⟨rfl, E1, E2, rfl⟩
          have es0 : (w.alloc (.cells #[.slice A m cap] E1)).heap.size = w.heap.size + 1 := World.size_alloc _ _
          have es : ((w.alloc (.cells #[.slice A m cap] E1)).alloc (.cells #[.int .i64 n] E2)).heap.size = w.heap.size + 2 := by rw [World.size_alloc, es0]
          have hb : ∀ b, b < w.heap.size → ((w.alloc (.cells #[.slice A m cap] E1)).alloc (.cells #[.int .i64 n] E2)).heap[b]? = w.heap[b]? := fun b hb => (Below.heap_alloc (w.alloc _) _ b (by omega)).trans (Below.heap_alloc w _ b hb)
          have e1 : ((w.alloc (.cells #[.slice A m cap] E1)).alloc (.cells #[.int .i64 n] E2)).heap[w.heap.size]? = some (.cells #[.slice A m cap] E1) := (Below.heap_alloc (w.alloc _) _ _ (by omega)).trans (heap_alloc_new w _)
          have e2 : ((w.alloc (.cells #[.slice A m cap] E1)).alloc (.cells #[.int .i64 n] E2)).heap[w.heap.size + 1]? = some (.cells #[.int .i64 n] E2) := by rw [← es0]; exact heap_alloc_new _ _
          have eo : ((w.alloc (.cells #[.slice A m cap] E1)).alloc (.cells #[.int .i64 n] E2)).os = w.os := rfl
          have et : ((w.alloc (.cells #[.slice A m cap] E1)).alloc (.cells #[.int .i64 n] E2)).tape = w.tape := rfl
          have ep : ((w.alloc (.cells #[.slice A m cap] E1)).alloc (.cells #[.int .i64 n] E2)).output = w.output := rfl
          generalize (w.alloc (.cells #[.slice A m cap] E1)).alloc (.cells #[.int .i64 n] E2) = W at hb e1 e2 es eo et ep
          have hSW : ∀ b, (S b ∨ b = w.heap.size ∨ b = w.heap.size + 1) → b < W.heap.size := fun b hb => by
            rcases hb with hb | rfl | rfl
            · have := hS.lt hb; omega
            · omega
            · omega
          refine ⟨_, [], [], fun b => S b ∨ b = w.heap.size ∨ b = w.heap.size + 1, rfl, eo, et, ep, by omega, Szs.same fun b hb' => hb b hb', fun b hb' _ => hb b hb', fun _ h => .inl h, fun b hb' => ⟨hSW b hb', ?_⟩, ?_, ?_, rfl, by simp, by simp⟩
          · rcases hb' with hb' | hb' | hb'
            · exact .inl hb'
            · exact .inr (.inl (by omega))
            · exact .inr (.inl (by omega))
          · intro b hb'
            rcases hb' with hb' | rfl | rfl
            · rw [hb b (hS.lt hb')]; exact hS b hb'
            · exact ⟨_, _, _, e1⟩
            · exact ⟨_, _, _, e2⟩
          · exact .chunk _ _ _ _ _ _ _ _ (.inr (.inl rfl)) (.inr (.inr rfl)) (h.mono (fun _ h => .inl h) fun b hb' => hb b (hS.lt hb')) (by simp [World.cell?, e1]) (by simp [World.cell?, e2])
    · simp at h2
  · simp at h1
end Go.Proofs.YtkokcibnkcmcjaaDoor

/- append of noughts ('append(s, make([]byte, n)...)'). Over any program. -/
namespace Go.Proofs.YtkokcibnkcmcjaaDoor
open Go Go.RowKit
set_option linter.unusedVariables false
set_option linter.unusedSimpArgs false

theorem zc_rep (k : Nat) : Builtin.zeroCells (Value.int .u8 0).cells k = ((u8s (List.replicate k 0)).take (k * 1)).toArray := by
  apply Array.ext
  · simp [Builtin.zeroCells, u8s, Value.cells]
  · intro i h1 h2
    simp [Builtin.zeroCells, u8s, Value.cells, u8, Nat.mod_one]
theorem run_append_mk {P : Program} {w : World} {T tn S E ty : TypeId} {kn : IntKind} (bt : SlTy P T E (.int .u8 0) 1 1) (htn : P.underlying tn = some (.int kn)) (hS : P.underlying S = some .string) (A : Option Addr) (n cap k : Nat) (h : n + k ≤ 140737488355328) {xs : List Value} {b : Nat} (own : RowX w 1 A n cap xs b) :
    (Builtin.append_ #[T, tn] ty #[.slice A n cap, .int .i64 (k : Int)]).run P w = (Builtin.append_ #[T, S] ty #[.slice A n cap, .string (str (List.replicate k 0))]).run P w := by
  obtain ⟨i, hi, hz0, hz1, hz2⟩ := info_parts bt.info
  have hsrc : Src P w S (.string (str (List.replicate k 0))) 1 (List.replicate k (0 : UInt8)).length (u8s (List.replicate k 0)) := src_string (P := P) (w := w) hS (List.replicate k (0 : UInt8))
  rw [List.length_replicate] at hsrc
  have hl0 : ∀ W, (Builtin.lenOf (.string (str (List.replicate k 0)))).run P W = .ok k W := fun W => hsrc.len W
  have hfc : ∀ W, W.heap = w.heap → (Builtin.firstCells 1 k (.string (str (List.replicate k 0)))).run P W = .ok (Builtin.zeroCells (Value.int .u8 0).cells k) W := fun W hW => by rw [zc_rep]; exact hsrc.cells k W (Nat.le_refl _) hW
  clear hsrc
  generalize Value.string (str (List.replicate k 0)) = v at hl0 hfc ⊢
  have h48' : ¬ (281474976710656 < (k : Int)) := by omega
  have hw : IntKind.i64.wrap (k : Int) = k := by rw [IntKind.wrap_i64]; omega
  have hneg : ¬ ((k : Int) < 0) := by omega
  have h48i : ¬ (281474976710656 < (k : Int) * (1 : Int)) := by omega
  have h63 : ¬ (9223372036854775807 < ((n : Int) + (k : Int))) := by omega
  have hz : k = 0 → Builtin.zeroCells (Value.int .u8 0).cells k = #[] := fun e => by subst e; simp [Builtin.zeroCells]
  have hold : (Builtin.firstCells 1 n (.slice A n cap)).run P w.drew = .ok xs.toArray w.drew := by
    obtain ⟨o1, o2, o3, o4⟩ := own
    rcases o4 with ⟨rfl, rfl⟩ | ⟨off, cur, E', fz, rfl, hh, hf, hs, htk⟩
    · have hx : xs = [] := List.eq_nil_of_length_eq_zero (by simpa using o1)
      subst hx
      rcases A with _ | ad
      · exact run_firstCells_none w.drew 1 0 0 0
      · exact run_firstCells_some w.drew 1 0 ad 0 0 [] (by simp) (fun j v hj => by simp at hj)
    · refine run_firstCells_some w.drew 1 n ⟨b, off, none⟩ n cap xs o1 (fun j v hj => ?_)
      rw [add_lit]
      show w.cell? _ = _
      rw [cell_of_row w b (off + j) cur E' fz hh, ← Array.getElem?_toList]
      rw [← htk] at hj
      exact drop_take_get hj
  have hfc' := hfc w.drew rfl
  by_cases hk : k = 0
  · subst hk
    have hz' := hz rfl
    have hw0 : IntKind.i64.wrap 0 = 0 := by rw [IntKind.wrap_i64]; omega
    by_cases hr : n ≤ cap
    · cases A <;> simp [Builtin.append_, run_underlying bt.sl, run_underlying htn, run_underlying hS, sizeOf, typeInfo, zeroValue, hi, hz0, hz1, hz2, asInt, asIntOf, hr, hl0, hfc, hz', hw0, storeCells]
    · have hf : ¬ (281474976710656 < Builtin.nextslicecap n cap) := by
        have := growslice_fits (bytes := 1) (show cap < n by omega) (by omega)
        omega
      simp [Builtin.append_, run_underlying bt.sl, run_underlying htn, run_underlying hS, sizeOf, typeInfo, zeroValue, hi, hz0, hz1, hz2, asInt, asIntOf, hr, hl0, hfc, hz', hw0, hf, hold, hfc', Question.forced, show ¬ (9223372036854775807 < (n : Int)) by omega]
  · by_cases hr : n + k ≤ cap
    · cases A <;> simp [Builtin.append_, run_underlying bt.sl, run_underlying htn, run_underlying hS, sizeOf, typeInfo, zeroValue, hi, hz0, hz1, hz2, asInt, asIntOf, hw, hneg, h48i, h48', h63, hr, hl0, hfc, hk]
    · have hf : ¬ (281474976710656 < Builtin.nextslicecap (n + k) cap) := by
        have := growslice_fits (bytes := 1) (show cap < n + k by omega) (by omega)
        omega
      simp [Builtin.append_, run_underlying bt.sl, run_underlying htn, run_underlying hS, sizeOf, typeInfo, zeroValue, hi, hz0, hz1, hz2, asInt, asIntOf, hw, hneg, h48i, h48', h63, hr, hl0, hfc, hk, hf, hold, hfc', Question.forced]
/-- append of noughts to bytes. -/
def apzD (Ti : Nat → TI) (O : Nat → Ob) (T tn Sy : TypeId) (x : D) (k : Int) : Option (Prop × Nat × Cont × Nat × List Nat) :=
  match (Ti T).ty, (Ti tn).ty, (Ti Sy).ty, x with
  | .slice e, .int _, .str, .sl o g off len =>
    match (O o).ct with
    | some (.bytes l) => some ((g = (O o).sh.gen ∧ (O o).sh.esz = 1 ∧ (Ti e).zero = .u8 0 ∧ (Ti e).sz = 1 ∧ (Ti e).by_ = 1 ∧ 0 ≤ k ∧ len + k.toNat ≤ 140737488355328), o, .bytes ((l.drop off).take len ++ List.replicate k.toNat 0), len + k.toNat, [o])
    | _ => none
  | _, _, _, _ => none
section
variable {C : Ctx} {s : St} {ρ : Nat → Pl} {S : Nat → Prop} {Φ : Nat → List Nat} {w : World}
theorem apz_ok (h : RepW C s ρ S Φ w) {T tn Sy ty : TypeId} {x : D} {k : Int} {g : Prop} {o : Nat} {c : Cont} {n : Nat} {R : List Nat} (e : apzD (tiOf C.P) s.ob T tn Sy x k = some (g, o, c, n, R)) (hg : g) {vx : Value} (hx : RV w S ρ s.sh x vx []) :
    Outc C s S ρ w ((Builtin.append_ #[T, tn] ty #[vx, .int .i64 k]).run C.P w) (s.lay1 o 1 c) (.sl o ((s.sh o).gen + 1) 0 n) := by
  unfold apzD at e
  split at e
  · rename_i el kn o' g' off len ht htn hS
    split at e
    · rename_i l ho
      injection e with e; injection e with e1 e2; injection e2 with e2 e3; injection e3 with e3 e4; injection e4 with e4 e5; subst e1; subst e2; subst e3; subst e4
      obtain ⟨gg, ge, g2, g3, g4, gk, g5⟩ := hg
      obtain ⟨k, rfl⟩ : ∃ m : Nat, k = m := ⟨k.toNat, by omega⟩
      rw [Int.toNat_natCast] at g5 ⊢
      obtain ⟨z, hz⟩ := slTy_of (P := C.P) ht (by rw [g2]; simp) (by rw [g2, g3]; rfl) (by rw [g2]; rfl) (by omega)
      rw [g3, g4] at hz
      have hes : (s.sh o').esz = 1 := ge
      obtain ⟨A, cap, xs, rfl, hrow, hbb, hrd, hxr⟩ := h.row ho (inv_sl hx gg) (by omega) (fun i _ => rfl)
      rw [hes] at hrow hrd
      have hbt : SlTy C.P T el (.int .u8 0) 1 1 := by
        obtain ⟨i, z', hi, hs, hb, hz', hzv⟩ := ti_zero (P := C.P) (t := el) (by rw [g2]; simp)
        have hv : z' = .int .u8 0 := by
          have hr : RV (default : World) (fun _ => False) (fun _ => ⟨0, 0, 0⟩) (fun _ => ⟨0, 0, 0⟩) (tiOf C.P el).zero z' [] := by rw [← hzv]; exact ofVal_ok z'
          rw [g2] at hr
          exact inv_u8 hr
        subst hv
        exact ⟨ti_slice ht, by rw [hi]; simp [hz', hs, hb, g3, g4], rfl, by decide⟩
      have := apb_ok (ty := ty) h (t := 0) (T := T) (T2 := Sy) (x := .sl o' g' off len) (y := .str (List.replicate k 0)) (by unfold apbD bsrc; simp only [ht, hS, ho]; rfl) (by
        refine ⟨trivial, gg, ge, g2, g3, g4, ?_⟩
        simp only [bytN, List.length_replicate]
        exact g5) hx (.str _)
      rw [show bytN (.str (List.replicate k 0)) = k from List.length_replicate] at this
      rw [run_append_mk hbt (ti_int htn) (ti_str hS) A len cap k g5 hrow]
      exact this
    · cases e
  · cases e
theorem apzD_loc {P : Program} {O O' : Nat → Ob} {T tn Sy : TypeId} {x : D} {k : Int} {g : Prop} {o : Nat} {c : Cont} {n : Nat} {R : List Nat} (e : apzD (tiOf P) O T tn Sy x k = some (g, o, c, n, R)) (h : ∀ o ∈ R, O' o = O o) : apzD (tiOf P) O' T tn Sy x k = some (g, o, c, n, R) ∧ o ∈ R := by
  unfold apzD at *
  split at e
  · rename_i el kn o' g' off len ht htn hS
    split at e
    · rename_i l ho
      injection e with e; injection e with e1 e2; injection e2 with e2 e3; injection e3 with e3 e4; injection e4 with e4 e5; subst e1; subst e2; subst e3; subst e4; subst e5
      have q := h o' (by simp)
      simp only [ht, htn, hS, q, ho]
      exact ⟨trivial, List.mem_cons_self⟩
    · cases e
  · cases e
variable {t : Nat} {pos : String} {after : Array Edge} {gd : Option (Nat × Bool)} {ty : TypeId}
theorem eff_apz {dst : Option Tmp} (T tn Sy : TypeId) (x y : Operand) {k : Int} (hy : ev C s y = .int .i64 k) {g : Prop} {o : Nat} {c : Cont} {n : Nat} {R : List Nat} (e : apzD (tiOf C.P) s.ob T tn Sy (ev C s x) k = some (g, o, c, n, R)) (hg : g) (hd : dstOk C.n dst) :
    Eff C ⟨dst, .call { callee := .builtin .append, args := #[x, y], argTypes := #[T, tn] }, ty, pos, after, gd⟩ s (.sl o ((s.ob o).sh.gen + 1) 0 n) [(o, nob s o 1 c)] (opT x ++ opT y) R :=
  eff_lay hd fun σ hT hR a w ρ S Φ h1 h2 => by
    obtain ⟨q1, q2⟩ := opT2 (C := C) hT
    rw [← q1] at e
    rw [← q2] at hy
    obtain ⟨e', ho⟩ := apzD_loc e hR
    have h := apz_ok (ty := ty) h1 e' hg (ev_rv h1 h2 x)
    have hv := ev_rv h1 h2 y
    rw [hy] at hv
    rw [← inv_int hv] at h
    rw [nob_same (hR o ho), ← gen_same (hR o ho)]
    exact ⟨_, by simp [execOp, resolve, invoke, builtin], h⟩
variable {Ti : Nat → TI} {G : Nat → Option D} {n : Nat} {ops : Array Oper} {acc acc' : Acc} {rest rest' : List Oper} {s1 s2 : St} {K : Acc → St → Prop} {W : St → St → Prop}
/-- That operation in a region. -/
theorem AZ_ (Sy : TypeId) {sl : List (Nat × D)} {hp : List (Nat × Ob)} {dk : List Nat} {t : Nat} {T tn : TypeId} {x y : Operand} {ty : TypeId} {pos : String} {after : Array Edge} {gd : Option (Nat × Bool)} {g : Prop} {dx : D} {k : Int} {o m γ : Nat} {c : Cont} {R : List Nat} (hE : Env C Ti G n)
    (hk : RG C ops W (([o], R) :: acc) rest s2 K)
    (hx : frc (evg G ⟨sl, hp, dk⟩ x) = some dx := by exact rfl) (hy : frc (evg G ⟨sl, hp, dk⟩ y) = some (.int .i64 k) := by exact rfl)
    (hc : gcO ops ⟨sl, hp, dk⟩ gd = .yes := by exact rfl) (hb : dstB n (some t) = true := by exact rfl) (e : apzD Ti (⟨sl, hp, dk⟩ : St).ob T tn Sy dx k = some (g, o, c, m, R) := by exact rfl) (hg : g := by exact sg_)
    (hγ : ((⟨sl, hp, dk⟩ : St).ob o).sh.gen + 1 = γ := by exact nc_)
    (hs : (⟨(t, .sl o γ 0 m) :: sl, (o, ⟨⟨γ, 1, c.len⟩, some c⟩) :: hp, dk⟩ : St) = s2 := by exact nr_) : RG C ops W acc (⟨some t, .call { callee := .builtin .append, args := #[x, y], argTypes := #[T, tn] }, ty, pos, after, gd⟩ :: rest) ⟨sl, hp, dk⟩ K := by
  subst hγ
  subst hs
  intro M hM hW hend
  have hx' := frc_ok hx
  have hy' := frc_ok hy
  rw [← hE.g, ← ev_g] at hx' hy'
  rw [← hE.ti] at e
  rw [← hx'] at e
  refine hM.step _ _ _ _ _ [(o, nob ⟨sl, hp, dk⟩ o 1 c)] R (effG_yes (o := ⟨some t, _, ty, pos, after, gd⟩) hc ((eff_apz T tn Sy x y hy' e hg (dstB_ok hE hb)).weak ?_ (fun _ h => h))) (hk M hM hW hend)
  intro z hz
  simp only [opsT, Op.operands, Call.operands, List.mem_flatMap] at hz ⊢
  rcases List.mem_append.1 hz with hz | hz
  · exact ⟨x, by simp, hz⟩
  · exact ⟨y, by simp, hz⟩
/-- A cell that is a nil slice owns no bytes. -/
theorem knilc {C : Ctx} {sl : List (Nat × D)} {hp : List (Nat × Ob)} {dk : List Nat} (o i : Nat) {sh : Sh} {cs cs' : List D} (ho : (⟨sl, hp, dk⟩ : St).ob o = ⟨sh, some (.cells cs)⟩) (hi : cs[i]? = some .nilS) (hcs : cs.set i (.ownb []) = cs') :
    Wk C ⟨sl, hp, dk⟩ ⟨sl, (o, ⟨sh, some (.cells cs')⟩) :: hp, dk⟩ := by
  subst hcs
  rintro a w ⟨h1, h2, ρ, S, Φ, h3, h4⟩
  have hct : ((⟨sl, hp, dk⟩ : St).ob o).ct = some (.cells cs) := by rw [ho]
  have hsh : (⟨sl, hp, dk⟩ : St).sh o = sh := by unfold St.sh; rw [ho]
  obtain ⟨q1, q2⟩ := h3.ob o _ hct
  have hil : i < cs.length := (List.getElem?_eq_some_iff.1 hi).1
  obtain ⟨k1, k2⟩ := h3.one (w' := w) o ⟨sh, some (.cells (cs.set i (.ownb [])))⟩ (ρ o) (Φ o) rfl rfl rfl (Nat.le_refl _) (Szs.refl w) (.inr ⟨hsh.symm, rfl⟩) (fun _ _ _ => rfl) (fun c' hc' => by
    have e : Cont.cells (cs.set i (.ownb [])) = c' := by simpa using hc'
    subst e
    rw [upd_self]
    have e2 : upd (⟨sl, hp, dk⟩ : St).sh o (⟨sh, some (.cells (cs.set i (.ownb [])))⟩ : Ob).sh = (⟨sl, hp, dk⟩ : St).sh := by
      show upd _ o sh = _
      rw [← hsh]; exact upd_self _ o
    rw [e2]
    rw [hsh] at q1
    refine ⟨by simpa [Cont.len] using q1, ?_⟩
    rcases q2 with ⟨z1, z2, z3⟩ | ⟨cur, E, fz, Fs, hh, hz, hs, hb, hF, hfl, hc⟩
    · exact .inl ⟨by simpa [Cont.len] using z1, z2, z3⟩
    · refine .inr ⟨cur, E, fz, Fs, hh, hz, hs, by simpa [Cont.len] using hb, hF, by simpa using hfl, fun j c u f p1 p2 p3 => ?_⟩
      rw [List.getElem?_set] at p1
      by_cases hij : i = j
      · subst hij
        rw [if_pos rfl, if_pos hil] at p1
        injection p1 with p1
        subst p1
        have hv := hc i _ u f hi p2 p3
        cases hv
        exact .ownb [] _ _ _ [] #[] 0 rfl ⟨Nat.le_refl _, by simp [maxLen], .inl ⟨rfl, rfl, rfl⟩⟩ (fun i hi => absurd hi (by omega))
      · rw [if_neg hij] at p1
        exact hc j c u f p1 p2 p3) (fun _ => ⟨(h3.own o _ hct).1, fun b hb => ⟨((h3.own o _ hct).2 b hb).1, ((h3.own o _ hct).2 b hb).2.1, ((h3.own o _ hct).2 b hb).2.2.1, ((h3.own o _ hct).2 b hb).2.2.2, fun o' c' hne hc' => h3.dis o o' _ c' hct hc' (Ne.symm hne) b hb⟩⟩)
  rw [upd_self, upd_self] at k1
  rw [upd_self] at k2
  exact ⟨h1, h2, ρ, S, Φ, k1, fun t => k2 _ _ (h4 t)⟩
end
end Go.Proofs.YtkokcibnkcmcjaaDoor

/- old's blend, Hide and Show. Printed by wp.py. -/
namespace Go.Proofs.YtkokcibnkcmcjaaDoor
open Go Go.RowKit
set_option linter.unusedVariables false
set_option linter.unusedSimpArgs false
set_option maxRecDepth 100000
set_option maxHeartbeats 4000000
attribute [local irreducible] inR VC RG VCn sq inS lq nq jq Wk rq

/-- Sixteen bytes put together with others. -/
def xorT (s b : List UInt8) (i : Nat) : List UInt8 := ((List.range i).map fun j => gb s j ^^^ gb b j) ++ List.replicate (16 - i) 0
def xor16 (s b : List UInt8) : List UInt8 := (List.range 16).map fun j => gb s j ^^^ gb b j
theorem xor16_len (s b : List UInt8) : (xor16 s b).length = 16 := by simp [xor16]
theorem xorT_zero (s b : List UInt8) : xorT s b 0 = List.replicate 16 0 := rfl
theorem xorT_len (s b : List UInt8) (i : Nat) (h : i ≤ 16) : (xorT s b i).length = 16 := by simp [xorT]; omega
theorem xorT_end (s b : List UInt8) : xorT s b 16 = xor16 s b := by simp [xorT, xor16]
theorem xorT_set (s b : List UInt8) (i : Nat) (h : i < 16) : (xorT s b i).set i (gb s i ^^^ gb b i) = xorT s b (i + 1) := by
  unfold xorT
  have hl : ((List.range i).map fun j => gb s j ^^^ gb b j).length = i := by simp
  have hr : List.replicate (16 - i) (0 : UInt8) = 0 :: List.replicate (16 - (i + 1)) 0 := by rw [show 16 - i = 16 - (i + 1) + 1 by omega, List.replicate_succ]
  rw [hr, List.set_append_right _ _ (by omega), hl, Nat.sub_self, List.set_cons_zero, List.range_succ, List.map_append, List.append_assoc]
  rfl
/-- What a row of pieces becomes, and the beginning behind them. -/
def hidF (sec l : List UInt8) (p : List UInt8 × List UInt8) (k : Nat) : List UInt8 × List UInt8 := (xor16 (md (sec ++ p.1)) (pc l 16 k), p.2 ++ xor16 (md (sec ++ p.1)) (pc l 16 k))
def hidL (sec beg l : List UInt8) (ks : List Nat) : List UInt8 × List UInt8 := ks.foldl (hidF sec l) (beg, [])
def shoF (sec l : List UInt8) (p : List UInt8 × List UInt8) (k : Nat) : List UInt8 × List UInt8 := (pc l 16 k, p.2 ++ xor16 (md (sec ++ p.1)) (pc l 16 k))
def shoL (sec beg l : List UInt8) (ks : List Nat) : List UInt8 × List UInt8 := ks.foldl (shoF sec l) (beg, [])
theorem hidL_s (sec beg l : List UInt8) (ks : List Nat) (k : Nat) : hidL sec beg l (ks ++ [k]) = (xor16 (md (sec ++ (hidL sec beg l ks).1)) (pc l 16 k), (hidL sec beg l ks).2 ++ xor16 (md (sec ++ (hidL sec beg l ks).1)) (pc l 16 k)) := by
  unfold hidL
  rw [List.foldl_append]
  rfl
theorem shoL_s (sec beg l : List UInt8) (ks : List Nat) (k : Nat) : shoL sec beg l (ks ++ [k]) = (pc l 16 k, (shoL sec beg l ks).2 ++ xor16 (md (sec ++ (shoL sec beg l ks).1)) (pc l 16 k)) := by
  unfold shoL
  rw [List.foldl_append]
  rfl
theorem hidL_0 (sec beg l : List UInt8) : hidL sec beg l [] = (beg, []) := rfl
theorem shoL_0 (sec beg l : List UInt8) : shoL sec beg l [] = (beg, []) := rfl
theorem snoc_ind {P : List Nat → Prop} (h0 : P []) (hs : ∀ l a, P l → P (l ++ [a])) (l : List Nat) : P l := by
  rw [← List.reverse_reverse l]
  induction l.reverse with
  | nil => exact h0
  | cons a r ih => rw [List.reverse_cons]; exact hs _ _ ih
theorem hidL_len (sec beg l : List UInt8) (m : Nat) (hm : 16 ≤ m) (hb : beg.length ≤ m) (ks : List Nat) : (hidL sec beg l ks).1.length ≤ m ∧ (hidL sec beg l ks).2.length = 16 * ks.length := by
  refine snoc_ind (P := fun ks => (hidL sec beg l ks).1.length ≤ m ∧ (hidL sec beg l ks).2.length = 16 * ks.length) ⟨hb, rfl⟩ (fun r a h => ?_) ks
  show (hidL sec beg l (r ++ [a])).1.length ≤ m ∧ (hidL sec beg l (r ++ [a])).2.length = 16 * (r ++ [a]).length
  rw [hidL_s]
  simp only [xor16_len, List.length_append, h.2, List.length_singleton]
  omega
theorem pc_le (l : List UInt8) (k : Nat) : (pc l 16 k).length ≤ 16 := by unfold pc; rw [List.length_take]; omega
theorem shoL_len (sec beg l : List UInt8) (m : Nat) (hm : 16 ≤ m) (hb : beg.length ≤ m) (ks : List Nat) : (shoL sec beg l ks).1.length ≤ m ∧ (shoL sec beg l ks).2.length = 16 * ks.length := by
  refine snoc_ind (P := fun ks => (shoL sec beg l ks).1.length ≤ m ∧ (shoL sec beg l ks).2.length = 16 * ks.length) ⟨hb, rfl⟩ (fun r a h => ?_) ks
  show (shoL sec beg l (r ++ [a])).1.length ≤ m ∧ (shoL sec beg l (r ++ [a])).2.length = 16 * (r ++ [a]).length
  have := pc_le l a
  rw [shoL_s]
  simp only [xor16_len, List.length_append, h.2, List.length_singleton]
  omega
/-- As long as whole pieces. -/
def pad16 (b : List UInt8) : List UInt8 := b ++ List.replicate ((16 - b.length % 16) % 16) 0
theorem pad16_def (b : List UInt8) : b ++ List.replicate ((16 - b.length % 16) % 16) 0 = pad16 b := rfl
theorem pad16_len2 (b : List UInt8) : b.length + (16 - b.length % 16) % 16 = (pad16 b).length := by unfold pad16; rw [List.length_append, List.length_replicate]
theorem pad16_len (b : List UInt8) : (pad16 b).length % 16 = 0 ∧ b.length ≤ (pad16 b).length ∧ (pad16 b).length ≤ b.length + 15 := by
  unfold pad16
  rw [List.length_append, List.length_replicate]
  omega
theorem pc_len (l : List UInt8) (k : Nat) (h : l.length % 16 = 0) (hk : k * 16 < l.length) : (pc l 16 k).length = 16 := by
  unfold pc
  rw [List.length_take, List.length_drop]
  omega
attribute [local irreducible] md xor16 xorT hidL shoL pad16
attribute [local simp] md_len xor16_len

namespace Ublend_fc
theorem U : type_of% @md_take ∧ type_of% @md_len ∧ type_of% (@drop_rep UInt8) ∧ type_of% (@drop_rep D) ∧ type_of% (@List.take_zero UInt8) ∧ type_of% (@List.take_zero D) := ⟨@md_take, @md_len, (@drop_rep UInt8), (@drop_rep D), (@List.take_zero UInt8), (@List.take_zero D)⟩
end Ublend_fc
open Ublend_fc
theorem blend_fc (s b : List UInt8) (hs : s.length = 16) (hb : b.length = 16) : FC Tryd.prog GE 84 [.aggb s, .rob b] (.ownb (xor16 s b)) none := by
  refine fi_ 26 [4] ti_eq gpE Tryd.func84 (fun C hE hm hP hrc hrn => ?_)
  refine A_ ?_
  rw [← xorT_zero s b]
  refine vl (fun i : Nat => ⟨[(1, .rob b), (2, .ptr 2 1 0), (5, .sl 7 1 0 16), (9, .int .i64 16), (10, .int .i64 i)], [(2, ⟨⟨1, 1, s.length⟩, some (.bytes s)⟩), (7, ⟨⟨1, 1, 16⟩, some (.bytes (xorT s b i))⟩)], []⟩) (fun i => i ≤ 16) (fun i => 16 - i) 0 ?_ (Nat.zero_le _) (fun i hi => ?_)
  · exact wk_ hrc
  · have hl := xorT_len s b i hi
    repeat' (first | refine A1_ ?_ | refine C_ hE (fun hc => ?_) (fun hc => ?_) <;> (try (exfalso; omega)))
    · rw [xorT_set s b i (by omega)]
      refine lq_n (i + 1) ?_ (by omega) (by omega)
      exact wk_ hrc
    · obtain rfl : i = 16 := by omega
      rw [xorT_end]
      repeat' (first | refine A1_ ?_ | refine C_ hE (fun hc => ?_) (fun hc => ?_) <;> (try (exfalso; omega)))
      exact ret_

theorem Hide_fc (sec beg b : List UInt8) (h1 : sec.length ≤ 100000) (h2 : beg.length ≤ 100000) (h3 : b.length ≤ 100000) : FC Tryd.prog GO 56 [.rob sec, .rob beg, .rob b] (.ownb (hidL sec beg (pad16 b) (List.range (pcN (pad16 b).length 16))).2) none := by
  refine fi_ 30 [6] ti_eq gpO Tryd.func56 (fun C hE hm hP hrc hrn => ?_)
  have hp := pad16_len b
  refine A_ ?_
  first | refine O_ ?_ | refine OD_ hm ?_
  refine G_ 1 hE ?_
  refine rc_ hE hP (clone_fc GO b (by omega)) Tryd.func82 ?_
  refine G_ 5 hE ?_
  refine AZ_ 9 hE ?_
  refine G_ 200 hE ?_
  first | refine rz ?_ | refine ZD_ ?_
  rw [show (b.length : Int) % 16 = ((b.length % 16 : Nat) : Int) by omega, show ((16 - ((b.length % 16 : Nat) : Int)) % 16).toNat = (16 - b.length % 16) % 16 by omega, pad16_def, pad16_len2]
  generalize pad16 b = l at *
  refine sq_n ?_
  refine wv_ (sgb_ 2 10) ?_
  refine A_ ?_
  first | refine O_ ?_ | refine OD_ hm ?_
  refine G_ 200 hE ?_
  refine rc_ hE hP (chunk_fc GO l 16 (by omega)) Tryd.func83 ?_
  refine G_ 200 hE ?_
  first | refine rz ?_ | refine ZD_ ?_
  refine A_ ?_
  refine VC.weak ?_ (knilc 7 0 rfl rfl rfl)
  refine vf (dk := []) (sl := [(18, .chunk 90 l 16), (3, .ptr 3 1 0), (4, .ptr 4 1 0), (7, .ptr 7 1 0)]) hE hrn (by rw [hP]; exact chunk_ok) ?_ ?_ ?_ rfl rfl (fun ks => [(3, ⟨⟨1, 1, 1⟩, some (.cells [.rob sec])⟩), (4, ⟨⟨1, 1, 1⟩, some (.cells [.rob (hidL sec beg l ks).1])⟩), (7, ⟨⟨1, 1, 1⟩, some (.cells [.ownb (hidL sec beg l ks).2])⟩)]) (fun _ => True) ?_ trivial rfl [3, 4, 7] ?_ ?_ ?_ ?_
  · omega
  · omega
  · omega
  · rw [hidL_0]
    exact wk_ hrc
  · exact look_nm rfl
  · exact fun d v h => absurd h (hrc d v)
  · intro C' pre k hE hP1 hkn _ hk hpre
    have hpb := Nat.lt_of_lt_of_le hpre (pcN_le (show 0 < 16 by omega))
    have hP := hP1.trans hP
    have hm : C'.P.follows .mixedOrders = true := by rw [hP]; kernel_rfl
    clear hrc hrn
    have hpl := pc_len l k hp.1 hk
    obtain ⟨hB, hO⟩ := hidL_len sec beg l 100000 (by omega) h2 pre
    have hs1 := hidL_s sec beg l pre k
    generalize hidL sec beg l pre = BO at *
    obtain ⟨B, O⟩ := BO
    simp only at hB hO hs1 ⊢
    generalize pc l 16 k = p at *
    refine wv_ (so_ 7 0 902 0) ?_
    repeat' (first | refine A1_ ?_ | refine C_ hE (fun hc => ?_) (fun hc => ?_) <;> (try (exfalso; omega)))
    first | refine O_ ?_ | refine OD_ hm ?_
    refine G_ 200 hE ?_
    refine rc_ hE hP (oOf2_fc sec B (by omega)) Tryd.func29 ?_
    refine G_ 200 hE ?_
    refine rc_ hE hP ((blend_fc (md (sec ++ B)) p (md_len _) hpl).any) Tryd.func84 ?_
    refine rg_w (sgb_ 25 25) ?_
    refine G_ 200 hE ?_
    first | refine rz ?_ | refine ZD_ ?_
    have hx := xor16_len (md (sec ++ B)) p
    rw [hs1]
    generalize xor16 (md (sec ++ B)) p = X at *
    refine A_ ?_
    refine rq_n ?_ trivial
    refine Wk.trans (sc_ 7 0 902) ?_
    refine wk_ofk rfl ?_ ?_ (fun d v h o ho => by have := hkn d v h o ho; simp at this ⊢; try omega) <;> (repeat' apply And.intro) <;> first | exact trivial | rfl | (intro o ho; simp [D.nm, nmL, ctNm, nmL_ownb, nmL_rob, nmL_str, nmL_cz] at ho <;> fail) | (intro o ho; simp [D.nm, nmL, ctNm, nmL_ownb, nmL_rob, nmL_str, nmL_cz] at ho ⊢ <;> omega) | (simp only [Z, U, Int.cast_ofNat_Int, UInt8.reduceToNat, UInt32.reduceToNat, Nat.reduceAdd, Nat.reduceMul, Nat.reduceSub, Nat.reduceLeDiff, Int.reduceToNat, Int.reducePow, Nat.reducePow] <;> fail) | (simp [St.ob, St.slot, look] <;> fail) | (simp [St.ob, St.slot, look]; omega) | simp [St.ob, St.slot, look] | skip
    · rw [← List.length_append, List.take_length]
  · intro dk' _
    refine in_n ?_
    refine sq_n ?_
    have hlen := (hidL_len sec beg l 100000 (by omega) h2 (List.range (pcN l.length 16))).2
    generalize hidL sec beg l (List.range (pcN l.length 16)) = BO at *
    obtain ⟨B, O⟩ := BO
    simp only at hlen ⊢
    refine wv_ (so_ 7 0 902 0) ?_
    refine A_ ?_
    exact ret_

theorem Show_fc (sec beg l : List UInt8) (h1 : sec.length ≤ 100000) (h2 : beg.length ≤ 100000) (h3 : l.length ≤ 100000) : FC Tryd.prog GO 57 [.rob sec, .rob beg, .rob l] (.ownb (if l.length % 16 = 0 then (shoL sec beg l (List.range (pcN l.length 16))).2 else [])) none := by
  refine fi_ 26 [6] ti_eq gpO Tryd.func57 (fun C hE hm hP hrc hrn => ?_)
  by_cases h16 : l.length % 16 = 0
  · rw [if_pos h16]
    repeat' (first | refine A1_ ?_ | refine C_ hE (fun hc => ?_) (fun hc => ?_) <;> (try (exfalso; omega)))
    first | refine O_ ?_ | refine OD_ hm ?_
    refine G_ 200 hE ?_
    refine rc_ hE hP (chunk_fc GO l 16 (by omega)) Tryd.func83 ?_
    refine G_ 200 hE ?_
    first | refine rz ?_ | refine ZD_ ?_
    refine A_ ?_
    refine VC.weak ?_ (knilc 7 0 rfl rfl rfl)
    refine vf (dk := []) (sl := [(14, .chunk 90 l 16), (3, .ptr 3 1 0), (4, .ptr 4 1 0), (7, .ptr 7 1 0)]) hE hrn (by rw [hP]; exact chunk_ok) ?_ ?_ ?_ rfl rfl (fun ks => [(3, ⟨⟨1, 1, 1⟩, some (.cells [.rob sec])⟩), (4, ⟨⟨1, 1, 1⟩, some (.cells [.rob (shoL sec beg l ks).1])⟩), (7, ⟨⟨1, 1, 1⟩, some (.cells [.ownb (shoL sec beg l ks).2])⟩)]) (fun _ => True) ?_ trivial rfl [3, 4, 7] ?_ ?_ ?_ ?_
    · omega
    · omega
    · omega
    · rw [shoL_0]
      exact wk_ hrc
    · exact look_nm rfl
    · exact fun d v h => absurd h (hrc d v)
    · intro C' pre k hE hP1 hkn _ hk hpre
      have hpb := Nat.lt_of_lt_of_le hpre (pcN_le (show 0 < 16 by omega))
      have hP := hP1.trans hP
      have hm : C'.P.follows .mixedOrders = true := by rw [hP]; kernel_rfl
      clear hrc hrn
      have hpl := pc_len l k h16 hk
      obtain ⟨hB, hO⟩ := shoL_len sec beg l 100000 (by omega) h2 pre
      have hs1 := shoL_s sec beg l pre k
      generalize shoL sec beg l pre = BO at *
      obtain ⟨B, O⟩ := BO
      simp only at hB hO hs1 ⊢
      generalize pc l 16 k = p at *
      have hx := xor16_len (md (sec ++ B)) p
      refine wv_ (so_ 7 0 902 0) ?_
      repeat' (first | refine A1_ ?_ | refine C_ hE (fun hc => ?_) (fun hc => ?_) <;> (try (exfalso; omega)))
      first | refine O_ ?_ | refine OD_ hm ?_
      refine G_ 200 hE ?_
      refine rc_ hE hP (oOf2_fc sec B (by omega)) Tryd.func29 ?_
      refine G_ 200 hE ?_
      refine rc_ hE hP ((blend_fc (md (sec ++ B)) p (md_len _) hpl).any) Tryd.func84 ?_
      refine G_ 200 hE ?_
      first | refine rz ?_ | refine ZD_ ?_
      rw [hs1]
      generalize xor16 (md (sec ++ B)) p = X at *
      refine A_ ?_
      refine rq_n ?_ trivial
      refine Wk.trans (sc_ 7 0 902) ?_
      refine wk_ofk rfl ?_ ?_ (fun d v h o ho => by have := hkn d v h o ho; simp at this ⊢; try omega) <;> (repeat' apply And.intro) <;> first | exact trivial | rfl | (intro o ho; simp [D.nm, nmL, ctNm, nmL_ownb, nmL_rob, nmL_str, nmL_cz] at ho <;> fail) | (intro o ho; simp [D.nm, nmL, ctNm, nmL_ownb, nmL_rob, nmL_str, nmL_cz] at ho ⊢ <;> omega) | (simp only [Z, U, Int.cast_ofNat_Int, UInt8.reduceToNat, UInt32.reduceToNat, Nat.reduceAdd, Nat.reduceMul, Nat.reduceSub, Nat.reduceLeDiff, Int.reduceToNat, Int.reducePow, Nat.reducePow] <;> fail) | (simp [St.ob, St.slot, look] <;> fail) | (simp [St.ob, St.slot, look]; omega) | simp [St.ob, St.slot, look] | skip
      · rw [← List.length_append, List.take_length]
    · intro dk' _
      refine in_n ?_
      refine sq_n ?_
      have hlen := (shoL_len sec beg l 100000 (by omega) h2 (List.range (pcN l.length 16))).2
      generalize shoL sec beg l (List.range (pcN l.length 16)) = BO at *
      obtain ⟨B, O⟩ := BO
      simp only at hlen ⊢
      refine wv_ (so_ 7 0 902 0) ?_
      refine A_ ?_
      exact ret_
  · rw [if_neg h16]
    repeat' (first | refine A1_ ?_ | refine C_ hE (fun hc => ?_) (fun hc => ?_) <;> (try (exfalso; omega)))
    exact ret_
end Go.Proofs.YtkokcibnkcmcjaaDoor

/- The reference's Hide. Printed by wp.py. -/
namespace Go.Proofs.YtkokcibnkcmcjaaDoor
open Go Go.RowKit
set_option linter.unusedVariables false
set_option linter.unusedSimpArgs false
set_option maxRecDepth 100000
set_option maxHeartbeats 4000000
attribute [local irreducible] inR VC RG VCn sq inS lq nq jq Wk rq
theorem pcN_16 (n : Nat) (h : n % 16 = 0) : pcN n 16 = n / 16 := by unfold pcN; omega
/-- So many bytes put together. -/
def xorP (s b : List UInt8) (i : Nat) : List UInt8 := (List.range i).map fun j => gb s j ^^^ gb b j
theorem xorP_zero (s b : List UInt8) : xorP s b 0 = [] := rfl
theorem xorP_len (s b : List UInt8) (i : Nat) : (xorP s b i).length = i := by simp [xorP]
theorem xorP_end (s b : List UInt8) : xorP s b 16 = xor16 s b := rfl
theorem pc_gb (l : List UInt8) (j i : Nat) (h : i < 16) : gb (pc l 16 j) i = gb l (16 * j + i) := by
  unfold pc
  rw [gb_take _ h, gb_drop, Nat.mul_comm]
theorem xorP_succ (s l : List UInt8) (j i : Nat) (h : i < 16) : xorP s (pc l 16 j) (i + 1) = xorP s (pc l 16 j) i ++ [gb l (16 * j + i) ^^^ gb s i] := by
  unfold xorP
  rw [List.range_succ, List.map_append, List.map_singleton, pc_gb l j i h, UInt8.xor_comm]
/-- Noughts behind, so many. -/
def padz (b : List UInt8) (z : Nat) : List UInt8 := b ++ List.replicate z 0
theorem padz_zero (b : List UInt8) : padz b 0 = b := by simp [padz]
theorem padz_succ (b : List UInt8) (z : Nat) : padz b (z + 1) = padz b z ++ [0] := by unfold padz; rw [List.replicate_succ', List.append_assoc]
theorem padz_len (b : List UInt8) (z : Nat) : (padz b z).length = b.length + z := by simp [padz]
theorem padz_end (b : List UInt8) : padz b ((16 - b.length % 16) % 16) = pad16 b := pad16_def b
theorem pc_str (l : List UInt8) (j : Nat) : (l.drop (16 * j)).take 16 = pc l 16 j := by unfold pc; rw [Nat.mul_comm]
theorem pc_dt (l : List UInt8) (j : Nat) : (l.take (16 * (j + 1))).drop (16 * j) = pc l 16 j := by rw [List.drop_take, show 16 * (j + 1) - 16 * j = 16 by omega]; exact pc_str l j
attribute [local irreducible] md xor16 hidL shoL pad16 xorP padz pc
attribute [local simp] md_len xor16_len

namespace UrHide_fc
theorem U : type_of% @md_take ∧ type_of% @md_len ∧ type_of% (@drop_rep UInt8) ∧ type_of% (@drop_rep D) ∧ type_of% (@List.take_zero UInt8) ∧ type_of% (@List.take_zero D) := ⟨@md_take, @md_len, (@drop_rep UInt8), (@drop_rep D), (@List.take_zero UInt8), (@List.take_zero D)⟩
end UrHide_fc
open UrHide_fc
theorem rHide_fc (sec beg b : List UInt8) (h1 : sec.length ≤ 100000) (h2 : beg.length ≤ 100000) (h3 : b.length ≤ 100000) : FC Tryd.prog GE 58 [.str sec, .str beg, .str b, .bool false] (.str (hidL sec beg (pad16 b) (List.range (pcN (pad16 b).length 16))).2) none := by
  refine fi_ 66 [8] ti_eq gpE Tryd.func58 (fun C hE hm hP hrc hrn => ?_)
  have hp := pad16_len b
  repeat' (first | refine A1_ ?_ | refine C_ hE (fun hc => ?_) (fun hc => ?_) <;> (try (exfalso; omega)))
  refine vl (fun z : Nat => ⟨[(0, .str sec), (1, .str beg), (2, .str (padz b z)), (3, .bool false)], [], []⟩) (fun z => z ≤ (16 - b.length % 16) % 16) (fun z => 16 - z) 0 ?_ (Nat.zero_le _) (fun z hz => ?_)
  · rw [padz_zero]
    exact wk_ hrc
  · have hzl := padz_len b z
    repeat' (first | refine A1_ ?_ | refine C_ hE (fun hc => ?_) (fun hc => ?_) <;> (try (exfalso; omega)))
    · refine lq_n (z + 1) ?_ (by omega) (by omega)
      rw [padz_succ]
      exact wk_ hrc
    · obtain rfl : z = (16 - b.length % 16) % 16 := by omega
      rw [padz_end, pcN_16 _ hp.1]
      clear hc hzl hz
      generalize pad16 b = l at *
      refine VC.weak ?_ (kniln 9 960 1 (c := .bytes []) rfl rfl rfl)
      refine vl (fun j : Nat => ⟨[(0, .str sec), (1, .str (hidL sec beg l (List.range j)).1), (2, .str l), (3, .bool false), (9, .sl 960 (1 + j) 0 (hidL sec beg l (List.range j)).2.length), (10, .int .i64 ((16 * j : Nat) : Int))], [(960, ⟨⟨1 + j, 1, (hidL sec beg l (List.range j)).2.length⟩, some (.bytes (hidL sec beg l (List.range j)).2)⟩)], []⟩) (fun j => 16 * j ≤ l.length) (fun j => l.length - 16 * j) 0 ?_ (Nat.zero_le _) (fun j hj => ?_)
      · rw [List.range_zero, hidL_0]
        exact wk_ hrc
      · repeat' (first | refine A1_ ?_ | refine C_ hE (fun hc => ?_) (fun hc => ?_) <;> (try (exfalso; omega)))
        · have hj2 : 16 * j + 16 ≤ l.length := by omega
          have hlen := hidL_len sec beg l 100000 (by omega) h2 (List.range j)
          have hs1 := hidL_s sec beg l (List.range j) j
          rw [← List.range_succ] at hs1
          rw [List.length_range] at hlen
          generalize hidL sec beg l (List.range j) = BO at *
          obtain ⟨B, O⟩ := BO
          obtain ⟨hB, hO⟩ := hlen
          simp only at hB hO hs1 ⊢
          have hM := md_len (sec ++ B)
          first | refine O_ ?_ | refine OD_ hm ?_
          refine G_ 200 hE ?_
          refine rc_ hE hP (rMd_fc (sec ++ B) (by rw [List.length_append]; omega)) Tryd.func31 ?_
          refine G_ 200 hE ?_
          first | refine rz ?_ | refine ZD_ ?_
          generalize md (sec ++ B) = M at *
          refine A_ ?_
          refine VC.weak ?_ (kniln 12 970 1 (c := .bytes []) rfl rfl rfl)
          refine vl (fun i : Nat => ⟨[(0, .str sec), (1, .str B), (2, .str l), (3, .bool false), (9, .sl 960 (1 + j) 0 O.length), (10, .int .i64 ((16 * j : Nat) : Int)), (11, .str M), (12, .sl 970 (1 + i) 0 (xorP M (pc l 16 j) i).length), (13, .int .i64 i)], [(960, ⟨⟨1 + j, 1, O.length⟩, some (.bytes O)⟩), (970, ⟨⟨1 + i, 1, (xorP M (pc l 16 j) i).length⟩, some (.bytes (xorP M (pc l 16 j) i))⟩)], []⟩) (fun i => i ≤ 16) (fun i => 16 - i) 0 ?_ (Nat.zero_le _) (fun i hi => ?_)
          · rw [xorP_zero]
            exact wk_ hrc
          · have hxl := xorP_len M (pc l 16 j) i
            repeat' (first | refine A1_ ?_ | refine C_ hE (fun hc => ?_) (fun hc => ?_) <;> (try (exfalso; omega)))
            · refine lq_n (i + 1) ?_ (by omega) (by omega)
              rw [show (((16 * j : Nat) : Int) + (i : Int)).toNat = 16 * j + i by omega, xorP_succ M l j i (by omega), List.length_append]
              exact wk_ hrc
            · obtain rfl : i = 16 := by omega
              rw [xorP_end]
              have hx := xor16_len M (pc l 16 j)
              generalize xor16 M (pc l 16 j) = X at *
              repeat' (first | refine A1_ ?_ | refine C_ hE (fun hc => ?_) (fun hc => ?_) <;> (try (exfalso; omega)))
              rw [show ((16 * j : Nat) : Int) + 16 = ((16 * (j + 1) : Nat) : Int) by omega]
              refine lq_n (j + 1) ?_ (by omega) (by omega)
              rw [hs1]
              exact wk_ hrc
        · obtain rfl : j = l.length / 16 := by omega
          have hlen := (hidL_len sec beg l 100000 (by omega) h2 (List.range (l.length / 16))).2
          generalize hidL sec beg l (List.range (l.length / 16)) = BO at *
          obtain ⟨B, O⟩ := BO
          simp only at hlen ⊢
          repeat' (first | refine A1_ ?_ | refine C_ hE (fun hc => ?_) (fun hc => ?_) <;> (try (exfalso; omega)))
          exact ret_

theorem rShow_fc (sec beg l : List UInt8) (h1 : sec.length ≤ 100000) (h2 : beg.length ≤ 100000) (h3 : l.length ≤ 100000) : FC Tryd.prog GE 58 [.str sec, .str beg, .str l, .bool true] (.str (if l.length % 16 = 0 then (shoL sec beg l (List.range (pcN l.length 16))).2 else [])) none := by
  refine fi_ 66 [8] ti_eq gpE Tryd.func58 (fun C hE hm hP hrc hrn => ?_)
  by_cases h16 : l.length % 16 = 0
  · rw [if_pos h16, pcN_16 _ h16]
    repeat' (first | refine A1_ ?_ | refine C_ hE (fun hc => ?_) (fun hc => ?_) <;> (try (exfalso; omega)))
    refine vl (fun z : Nat => ⟨[(0, .str sec), (1, .str beg), (2, .str l), (3, .bool true)], [], []⟩) (fun z => z = 0) (fun z => 16 - z) 0 ?_ rfl (fun z hz => ?_)
    · exact wk_ hrc
    · repeat' (first | refine A1_ ?_ | refine C_ hE (fun hc => ?_) (fun hc => ?_) <;> (try (exfalso; omega)))
      refine VC.weak ?_ (kniln 9 960 1 (c := .bytes []) rfl rfl rfl)
      refine vl (fun j : Nat => ⟨[(0, .str sec), (1, .str (shoL sec beg l (List.range j)).1), (2, .str l), (3, .bool true), (9, .sl 960 (1 + j) 0 (shoL sec beg l (List.range j)).2.length), (10, .int .i64 ((16 * j : Nat) : Int))], [(960, ⟨⟨1 + j, 1, (shoL sec beg l (List.range j)).2.length⟩, some (.bytes (shoL sec beg l (List.range j)).2)⟩)], []⟩) (fun j => 16 * j ≤ l.length) (fun j => l.length - 16 * j) 0 ?_ (Nat.zero_le _) (fun j hj => ?_)
      · rw [List.range_zero, shoL_0]
        exact wk_ hrc
      · repeat' (first | refine A1_ ?_ | refine C_ hE (fun hc => ?_) (fun hc => ?_) <;> (try (exfalso; omega)))
        · have hj2 : 16 * j + 16 ≤ l.length := by omega
          have hlen := shoL_len sec beg l 100000 (by omega) h2 (List.range j)
          have hs1 := shoL_s sec beg l (List.range j) j
          rw [← List.range_succ] at hs1
          rw [List.length_range] at hlen
          generalize shoL sec beg l (List.range j) = BO at *
          obtain ⟨B, O⟩ := BO
          obtain ⟨hB, hO⟩ := hlen
          simp only at hB hO hs1 ⊢
          have hM := md_len (sec ++ B)
          first | refine O_ ?_ | refine OD_ hm ?_
          refine G_ 200 hE ?_
          refine rc_ hE hP (rMd_fc (sec ++ B) (by rw [List.length_append]; omega)) Tryd.func31 ?_
          refine G_ 200 hE ?_
          first | refine rz ?_ | refine ZD_ ?_
          generalize md (sec ++ B) = M at *
          refine A_ ?_
          refine VC.weak ?_ (kniln 12 970 1 (c := .bytes []) rfl rfl rfl)
          refine vl (fun i : Nat => ⟨[(0, .str sec), (1, .str B), (2, .str l), (3, .bool true), (9, .sl 960 (1 + j) 0 O.length), (10, .int .i64 ((16 * j : Nat) : Int)), (11, .str M), (12, .sl 970 (1 + i) 0 (xorP M (pc l 16 j) i).length), (13, .int .i64 i)], [(960, ⟨⟨1 + j, 1, O.length⟩, some (.bytes O)⟩), (970, ⟨⟨1 + i, 1, (xorP M (pc l 16 j) i).length⟩, some (.bytes (xorP M (pc l 16 j) i))⟩)], []⟩) (fun i => i ≤ 16) (fun i => 16 - i) 0 ?_ (Nat.zero_le _) (fun i hi => ?_)
          · rw [xorP_zero]
            exact wk_ hrc
          · have hxl := xorP_len M (pc l 16 j) i
            repeat' (first | refine A1_ ?_ | refine C_ hE (fun hc => ?_) (fun hc => ?_) <;> (try (exfalso; omega)))
            · refine lq_n (i + 1) ?_ (by omega) (by omega)
              rw [show (((16 * j : Nat) : Int) + (i : Int)).toNat = 16 * j + i by omega, xorP_succ M l j i (by omega), List.length_append]
              exact wk_ hrc
            · obtain rfl : i = 16 := by omega
              rw [xorP_end]
              have hx := xor16_len M (pc l 16 j)
              generalize xor16 M (pc l 16 j) = X at *
              repeat' (first | refine A1_ ?_ | refine C_ hE (fun hc => ?_) (fun hc => ?_) <;> (try (exfalso; omega)))
              rw [show ((16 * j : Nat) : Int) + 16 = ((16 * (j + 1) : Nat) : Int) by omega, Int.toNat_natCast, pc_dt]
              refine lq_n (j + 1) ?_ (by omega) (by omega)
              rw [hs1]
              exact wk_ hrc
        · obtain rfl : j = l.length / 16 := by omega
          have hlen := (shoL_len sec beg l 100000 (by omega) h2 (List.range (l.length / 16))).2
          generalize shoL sec beg l (List.range (l.length / 16)) = BO at *
          obtain ⟨B, O⟩ := BO
          simp only at hlen ⊢
          repeat' (first | refine A1_ ?_ | refine C_ hE (fun hc => ?_) (fun hc => ?_) <;> (try (exfalso; omega)))
          exact ret_
  · rw [if_neg h16]
    repeat' (first | refine A1_ ?_ | refine C_ hE (fun hc => ?_) (fun hc => ?_) <;> (try (exfalso; omega)))
    exact ret_
end Go.Proofs.YtkokcibnkcmcjaaDoor

/- What is hidden is shown again, in plain Lean. -/
namespace Go.Proofs.YtkokcibnkcmcjaaDoor
open Go Go.RowKit
set_option linter.unusedVariables false
set_option linter.unusedSimpArgs false

theorem hid_pre (sec beg l : List UInt8) : ∀ d j, ((hidL sec beg l (List.range (j + d))).2).take (16 * j) = (hidL sec beg l (List.range j)).2
  | 0, j => by
    have h := (hidL_len sec beg l (max 16 beg.length) (by omega) (by omega) (List.range j)).2
    rw [List.length_range] at h
    rw [Nat.add_zero]
    exact List.take_of_length_le (by omega)
  | d + 1, j => by
    have ih := hid_pre sec beg l d j
    have h := (hidL_len sec beg l (max 16 beg.length) (by omega) (by omega) (List.range (j + d))).2
    rw [List.length_range] at h
    rw [show j + (d + 1) = (j + d) + 1 by omega, List.range_succ, hidL_s]
    show List.take (16 * j) ((hidL sec beg l (List.range (j + d))).2 ++ _) = _
    rw [List.take_append_of_le_length (by omega), ih]
theorem xor16_twice (s p : List UInt8) (h : p.length = 16) : xor16 s (xor16 s p) = p := by
  apply List.ext_getElem
  · rw [xor16_len, h]
  · intro i h1 h2
    have hi : i < 16 := by rw [xor16_len] at h1; exact h1
    have e1 : gb (xor16 s p) i = gb s i ^^^ gb p i := by
      unfold xor16 gb
      rw [List.getD_eq_getElem?_getD, List.getElem?_map, List.getElem?_range hi]
      rfl
    have e2 : gb p i = p[i] := by
      unfold gb
      rw [List.getD_eq_getElem?_getD, List.getElem?_eq_getElem h2]
      rfl
    have e3 : (xor16 s (xor16 s p))[i] = gb s i ^^^ gb (xor16 s p) i := by
      simp [xor16]
    refine Eq.trans e3 ?_
    rw [e1, e2, ← UInt8.xor_assoc, UInt8.xor_self, UInt8.zero_xor]
theorem hid_sho (sec beg l H : List UInt8) (K : Nat) (hl : l.length = 16 * K) (hH : H = (hidL sec beg l (List.range K)).2) : ∀ j, j ≤ K → shoL sec beg H (List.range j) = ((hidL sec beg l (List.range j)).1, l.take (16 * j))
  | 0, _ => by rw [List.range_zero, shoL_0, hidL_0]; simp
  | j + 1, hj => by
    have ih := hid_sho sec beg l H K hl hH j (by omega)
    have hp : (pc l 16 j).length = 16 := pc_len l j (by omega) (by omega)
    have hO := (hidL_len sec beg l (max 16 beg.length) (by omega) (by omega) (List.range j)).2
    rw [List.length_range] at hO
    have hq := hid_pre sec beg l (K - (j + 1)) (j + 1)
    rw [show j + 1 + (K - (j + 1)) = K by omega, ← hH] at hq
    rw [List.range_succ, shoL_s, hidL_s, ih]
    rw [List.range_succ, hidL_s] at hq
    generalize hidL sec beg l (List.range j) = BO at *
    obtain ⟨B, O⟩ := BO
    simp only at hO hq ⊢
    have hX : pc H 16 j = xor16 (md (sec ++ B)) (pc l 16 j) := by
      rw [← pc_dt, hq, ← hO, List.drop_left]
    rw [hX, xor16_twice _ _ hp]
    congr 1
    rw [← pc_str l j, show 16 * (j + 1) = 16 * j + 16 by omega, List.take_add]
theorem hid_back (sec beg b : List UInt8) : (shoL sec beg (hidL sec beg (pad16 b) (List.range (pcN (pad16 b).length 16))).2 (List.range (pcN (hidL sec beg (pad16 b) (List.range (pcN (pad16 b).length 16))).2.length 16))).2 = pad16 b := by
  obtain ⟨hp, _, _⟩ := pad16_len b
  generalize pad16 b = l at *
  have hl : l.length = 16 * pcN l.length 16 := by rw [pcN_16 _ hp]; omega
  have hO := (hidL_len sec beg l (max 16 beg.length) (by omega) (by omega) (List.range (pcN l.length 16))).2
  rw [List.length_range] at hO
  generalize hK : pcN l.length 16 = K at *
  have h := hid_sho sec beg l _ K hl rfl K (Nat.le_refl _)
  rw [hO, ← hl, hK, h]
  exact List.take_of_length_le (by omega)
theorem hid_len (sec beg b : List UInt8) : (hidL sec beg (pad16 b) (List.range (pcN (pad16 b).length 16))).2.length = (pad16 b).length := by
  obtain ⟨hp, _, _⟩ := pad16_len b
  have hO := (hidL_len sec beg (pad16 b) (max 16 beg.length) (by omega) (by omega) (List.range (pcN (pad16 b).length 16))).2
  rw [List.length_range, pcN_16 _ hp] at hO
  rw [pcN_16 _ hp]
  omega
theorem pad16_take (b : List UInt8) : (pad16 b).take b.length = b := by unfold pad16; rw [List.take_left]
theorem pad16_z (b : List UInt8) (i : Nat) (h : b.length ≤ i) : gb (pad16 b) i = 0 := by
  unfold pad16 gb
  rw [List.getD_eq_getElem?_getD, List.getElem?_append_right h, List.getElem?_replicate]
  split <;> rfl
end Go.Proofs.YtkokcibnkcmcjaaDoor
