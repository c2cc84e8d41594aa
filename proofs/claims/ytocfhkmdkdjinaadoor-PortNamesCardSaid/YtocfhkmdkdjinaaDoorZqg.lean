/- What the claim leans on, text Zqg: Rng. No condition beyond what each lemma states. -/
import Derived.Test.YtocfhkmdkdjinaaDoorZk

/- A range over the pieces of a row of bytes. Over any program. -/
namespace Go.Proofs.YtocfhkmdkdjinaaDoor
open Go Go.RowKit
set_option linter.unusedVariables false
set_option linter.unusedSimpArgs false

/-- Piece k of n bytes. -/
def pc (l : List UInt8) (n k : Nat) : List UInt8 := (l.drop (k * n)).take n
/-- How many there are. -/
def pcN (m n : Nat) : Nat := (m + n - 1) / n
theorem pcN_lt {m n k : Nat} (hn : 0 < n) : k < pcN m n ↔ k * n < m := by
  unfold pcN
  rw [Nat.lt_div_iff_mul_lt hn]
  omega
theorem pcN_le {m n : Nat} (hn : 0 < n) : pcN m n ≤ m := by
  rcases Nat.lt_or_ge m (pcN m n) with h | h
  · have := (pcN_lt hn).1 h
    have := Nat.le_mul_of_pos_right m hn
    omega
  · exact h
/-- Piece k, as a value. -/
def pv (A : Option Addr) (m n k : Nat) : Value :=
  match A with
  | some a => .slice (some (a.add (k * n))) (min n (m - k * n)) (min n (m - k * n))
  | none => .slice none 0 0
def Ix_ (m n : Nat) := { k : Nat // k * n < m }
/-- What the iterator looks at. -/
def Keep2 (b1 b2 : Nat) (W W' : World) : Prop := W'.heap[b1]? = W.heap[b1]? ∧ W'.heap[b2]? = W.heap[b2]?
/-- The contract of the function that hands out pieces. -/
def ChunkOk (P : Program) (f : Nat) : Prop :=
  fnOk P f ∧ ∀ (n m b1 b2 : Nat) (A : Option Addr) (cap : Nat) (w : World), 0 < n → n ≤ 4611686018427387904 → m ≤ 140737488355328 → m ≤ cap → (0 < m → ∃ b off, A = some ⟨b, off, none⟩) → b1 < w.heap.size → b2 < w.heap.size → w.cell? ⟨b1, 0, none⟩ = some (.slice A m cap) → w.cell? ⟨b2, 0, none⟩ = some (.int .i64 n) →
    SeqStopsK Fence.wide 4 P f #[.pointer (some ⟨b1, 0, none⟩), .pointer (some ⟨b2, 0, none⟩)] (fun k : Ix_ m n => #[pv A m n k.1]) (Keep2 b1 b2) (fun xs => xs.map (·.1) = List.range (pcN m n)) (fun _ => True) (pcN m n) w

/-! A walk within a walk. -/
/-- The blocks of the live objects. -/
def ownL (s : St) (Φ : Nat → List Nat) : List Nat := (s.hp.map (·.1)).flatMap Φ
theorem ob_name {s : St} {o : Nat} {c : Cont} (h : (s.ob o).ct = some c) : o ∈ s.hp.map (·.1) := by
  by_cases ho : o ∈ s.hp.map (·.1)
  · exact ho
  · have : s.ob o = .no := look_none _ _ ho
    rw [this] at h
    cases h
/-- What a round may lean on: the state s, in the frame a and the world w. -/
def rctx (C : Ctx) (w : World) (S : Nat → Prop) (M : List Nat) (kp : D → Value → Prop) (rnd : Option Nat) : Ctx := ⟨C.P, w, M, S, C.G, C.gp, C.n, kp, rnd⟩
section
variable {C : Ctx} {s s' : St} {ρ ρ' : Nat → Pl} {S S' : Nat → Prop} {Φ Φ' : Nat → List Nat} {w w' : World} {kp : D → Value → Prop} {rnd : Option Nat}
theorem own_nd (h : RepW C s ρ S Φ w) {b : Nat} (hb : b ∈ ownL s Φ) (hl : ∀ o, o ∈ s.hp.map (·.1) → (s.ob o).ct = none → Φ o = []) : ∃ o c, (s.ob o).ct = some c ∧ b ∈ Φ o := by
  obtain ⟨o, ho, hbo⟩ := List.mem_flatMap.1 hb
  rcases hc : (s.ob o).ct with _ | c
  · rw [hl o ho hc] at hbo; cases hbo
  · exact ⟨o, c, hc, hbo⟩
/-- Objects that aren't alive own nothing. -/
def cln (s : St) (Φ : Nat → List Nat) : Nat → List Nat := fun o => if (s.ob o).ct.isSome then Φ o else []
theorem rep_cln (h : RepW C s ρ S Φ w) : RepW C s ρ S (cln s Φ) w := by
  have e : ∀ o c, (s.ob o).ct = some c → cln s Φ o = Φ o := fun o c hc => by unfold cln; rw [if_pos (by rw [hc]; rfl)]
  exact ⟨h.os, h.tape, h.output, h.size, h.szs, h.fr, h.s0, h.s1, h.sc, h.gl, fun o c hc => by rw [e o c hc]; exact h.ob o c hc, h.rv, h.dk, h.dkn, fun o c hc => by rw [e o c hc]; exact h.own o c hc,
    fun o o' c c' hc hc' hne => by rw [e o c hc, e o' c' hc']; exact h.dis o o' c c' hc hc' hne⟩
theorem cln_none (o : Nat) (h : (s.ob o).ct = none) : cln s Φ o = [] := by unfold cln; rw [h]; rfl
theorem ownL_cln (h : RepW C s ρ S (cln s Φ) w) {b : Nat} (hb : b ∈ ownL s (cln s Φ)) : ∃ o c, (s.ob o).ct = some c ∧ b ∈ cln s Φ o := own_nd h hb (fun o _ hc => cln_none o hc)
/-- In. -/
theorem rep_rin (h : RepW C s ρ S (cln s Φ) w) (hk : ∀ d v, kp d v → RV w S ρ s.sh d v []) : RepW (rctx C w S (ownL s (cln s Φ)) kp rnd) ⟨[], s.hp, []⟩ ρ S (cln s Φ) w :=
  ⟨rfl, rfl, rfl, Nat.le_refl _, Szs.refl w, fun _ _ _ => rfl, fun _ h => h, fun b hb => ⟨(h.s1 b hb).1, .inl hb⟩, h.sc, h.gl, h.ob, hk, by simp, ⟨by simp, by simp⟩,
    fun o c hc => ⟨(h.own o c hc).1, fun b hb => ⟨((h.own o c hc).2 b hb).1, ((h.own o c hc).2 b hb).2.1, .inr (List.mem_flatMap.2 ⟨o, ob_name hc, hb⟩), by simp⟩⟩, h.dis⟩
/-- Out. -/
theorem rep_rout (h : RepW C s ρ S (cln s Φ) w) (h' : RepW (rctx C w S (ownL s (cln s Φ)) kp rnd) s' ρ' S' Φ' w') (hk : ∀ d v, C.keep d v → kp d v) (hdk : s'.dk = []) : RepW C ⟨s'.sl, s'.hp, s.dk⟩ ρ' S' Φ' w' := by
  have hM : ∀ b ∈ ownL s (cln s Φ), ∃ o c, (s.ob o).ct = some c ∧ b ∈ cln s Φ o := fun b hb => ownL_cln h hb
  have hnM : ∀ b, S b → b ∉ ownL s (cln s Φ) := fun b hb hm => by
    obtain ⟨o, c, hc, hbo⟩ := hM b hm
    exact ((h.own o c hc).2 b hbo).1 hb
  have hfrom : ∀ b, (S b ∨ w.heap.size ≤ b ∨ b ∈ ownL s (cln s Φ)) → C.S0 b ∨ C.w0.heap.size ≤ b ∨ b ∈ C.M := fun b hb => by
    rcases hb with hb | hb | hb
    · exact (h.s1 b hb).2
    · exact .inr (.inl (Nat.le_trans h.size hb))
    · obtain ⟨o, c, hc, hbo⟩ := hM b hb
      exact .inr ((h.own o c hc).2 b hbo).2.2.1
  have hdkM : ∀ r ∈ s.dk, r ∉ ownL s (cln s Φ) ∧ r < w.heap.size := fun r hr => ⟨fun hm => by
    obtain ⟨o, c, hc, hbo⟩ := hM r hm
    exact ((h.own o c hc).2 r hbo).2.2.2 hr, (Array.getElem?_eq_some_iff.1 (h.dk r hr)).1⟩
  have hdk' : ∀ r ∈ s.dk, w'.heap[r]? = some (.deferred (some [])) := fun r hr => (h'.fr r (hdkM r hr).2 (hdkM r hr).1).trans (h.dk r hr)
  refine ⟨h'.os.trans h.os, h'.tape.trans h.tape, h'.output.trans h.output, Nat.le_trans h.size h'.size, h.szs.trans h'.szs, fun b hb hbM => ?_, fun b hb => h'.s0 b (h.s0 b hb), fun b hb => ⟨(h'.s1 b hb).1, hfrom b (h'.s1 b hb).2⟩, h'.sc, h'.gl, h'.ob, fun d v hv => h'.rv d v (hk d v hv), hdk', ⟨h.dkn.1, fun r hr => ⟨(h.dkn.2 r hr).1, fun hS => ?_⟩⟩, fun o c hc => ⟨(h'.own o c hc).1, fun b hb => ?_⟩, h'.dis⟩
  · have hbm : b ∉ ownL s (cln s Φ) := fun hm => by
      obtain ⟨o, c, hc, hbo⟩ := hM b hm
      rcases ((h.own o c hc).2 b hbo).2.2.1 with q | q
      · omega
      · exact hbM q
    exact (h'.fr b (Nat.lt_of_lt_of_le hb h.size) hbm).trans (h.fr b hb hbM)
  · obtain ⟨_, _, _, e⟩ := h'.sc r hS
    rw [hdk' r hr] at e
    cases e
  · obtain ⟨q1, q2, q3, q4⟩ := (h'.own o c hc).2 b hb
    refine ⟨q1, q2, ?_, fun hr => ?_⟩
    · rcases hfrom b (.inr q3) with q | q
      · rcases q3 with q3 | q3
        · exact .inl (Nat.le_trans h.size q3)
        · obtain ⟨o', c', hc', hbo⟩ := hM b q3
          exact ((h.own o' c' hc').2 b hbo).2.2.1
      · exact q
    · obtain ⟨_, _, _, e⟩ := (h'.ob o c hc).rows b hb
      rw [hdk' b hr] at e
      cases e
/-- One more mark. -/
theorem rep_mark (h : RepW C s ρ S Φ w) (D : Nat) (hD : C.w0.heap.size ≤ D) (hn : D ∉ s.dk) (hd : w.heap[D]? = some (.deferred (some []))) : RepW C ⟨s.sl, s.hp, D :: s.dk⟩ ρ S Φ w :=
  ⟨h.os, h.tape, h.output, h.size, h.szs, h.fr, h.s0, h.s1, h.sc, h.gl, h.ob, h.rv, fun r hr => by
    rcases List.mem_cons.1 hr with rfl | hr
    · exact hd
    · exact h.dk r hr, ⟨List.nodup_cons.2 ⟨hn, h.dkn.1⟩, fun r hr => by
    rcases List.mem_cons.1 hr with rfl | hr
    · refine ⟨hD, fun hS => ?_⟩
      obtain ⟨_, _, _, e⟩ := h.sc r hS
      rw [hd] at e
      cases e
    · exact h.dkn.2 r hr⟩, fun o c hc => ⟨(h.own o c hc).1, fun b hb => by
    obtain ⟨q1, q2, q3, q4⟩ := (h.own o c hc).2 b hb
    refine ⟨q1, q2, q3, fun hr => ?_⟩
    rcases List.mem_cons.1 hr with rfl | hr
    · obtain ⟨_, _, _, e⟩ := (h.ob o c hc).rows b hb
      rw [hd] at e
      cases e
    · exact q4 hr⟩, h.dis⟩
/-- What is no row may turn beyond the call's beginning. -/
theorem rep_grown (h : RepW C s ρ S Φ w) (hdk : s.dk = []) {row : Option Nat} (hg : w.grownBy w' row) (hr : ∀ r, row = some r → C.w0.heap.size ≤ r ∧ ∃ o : Obj, w.heap[r]? = some o ∧ o.isCells = false) : RepW C s ρ S Φ w' := by
  have hc : ∀ b, (∃ cur E fz, w.heap[b]? = some (Obj.cells cur E fz)) → w'.heap[b]? = w.heap[b]? := fun b ⟨cur, E, fz, e⟩ => hg.block b (Array.getElem?_eq_some_iff.1 e).1 (fun e' => by
    obtain ⟨_, o, h1, h2⟩ := hr b e'.symm
    rw [e] at h1
    injection h1 with h1
    subst h1
    cases h2)
  have hm : ∀ {d v}, RV w S ρ s.sh d v [] → RV w' S ρ s.sh d v [] := fun hr => hr.mono (fun _ h => h) (fun b hb => hc b (h.sc b hb)) (fun _ => ⟨Nat.le_refl _, fun _ => ⟨rfl, rfl⟩⟩) (by simp)
  refine ⟨hg.os.trans h.os, hg.tape.trans h.tape, hg.output.trans h.output, Nat.le_trans h.size hg.size, fun b cur E fz hb => ?_, fun b hb hbM => ?_, h.s0, fun b hb => ⟨Nat.lt_of_lt_of_le (h.s1 b hb).1 hg.size, (h.s1 b hb).2⟩, h.sc.same (fun b hb => hc b (h.sc b hb)), fun g cs hg' => hm (h.gl g cs hg'),
    fun o c ho => (h.ob o c ho).mono (fun _ h => h) (fun b hb => hc b (h.sc b hb)) (fun _ => ⟨Nat.le_refl _, fun _ => ⟨rfl, rfl⟩⟩) (fun b hb => hc b ((h.ob o c ho).rows b hb)), fun d v hv => hm (h.rv d v hv), by rw [hdk]; simp, by rw [hdk]; exact ⟨by simp, by simp⟩,
    fun o c ho => ⟨(h.own o c ho).1, fun b hb => ⟨((h.own o c ho).2 b hb).1, Nat.lt_of_lt_of_le ((h.own o c ho).2 b hb).2.1 hg.size, ((h.own o c ho).2 b hb).2.2⟩⟩, h.dis⟩
  · obtain ⟨cur', E', fz', k1, k2⟩ := h.szs b cur E fz hb
    exact ⟨cur', E', fz', (hc b ⟨_, _, _, k1⟩).trans k1, k2⟩
  · refine (hg.block b (Nat.lt_of_lt_of_le hb h.size) (fun e => ?_)).trans (h.fr b hb hbM)
    have := (hr b e.symm).1
    omega
end

/-! The rule. -/
def rq (C : Ctx) (s : St) (J : Prop) : Exit → St → Prop
  | .normal, s' => Wk C s' s ∧ J
  | _, _ => False
theorem rq_n {C : Ctx} {s s' : St} {J : Prop} (h : Wk C s' s) (hj : J) : rq C s J .normal s' := ⟨h, hj⟩
/-- A round's state: the slots are as they were. -/
theorem rdS_pv {w : World} {S : Nat → Prop} {A : Option Addr} {m cap n k : Nat} {l : List UInt8} (h : RdS w S A m cap l) (hk : k * n < m) : ∃ B e, pv A m n k = .slice B e e ∧ RdS w S B e e (pc l n k) := by
  obtain ⟨b, off, rfl, hb, hc⟩ := h.cells (by omega)
  refine ⟨_, _, rfl, ?_, Nat.le_refl _, ?_, fun h0 => ⟨b, off + k * n, by simp [add_lit], hb, fun i hi => ?_⟩⟩
  · unfold pc
    rw [List.length_take, List.length_drop, h.len]
  · have := h.le; have := h.max; omega
  · rw [Nat.add_assoc, hc (k * n + i) (by omega)]
    congr 2
    simp only [pc, gb, List.getD_eq_getElem?_getD, List.getElem?_take, List.getElem?_drop]
    rw [if_pos (by omega)]
theorem vf {C : Ctx} {Ti : Nat → TI} {G : Nat → Option D} {nt : Nat} (hE : Env C Ti G nt) {s0 : St} {sl : List (Nat × D)} {dk : List Nat} {t p q id f n : Nat} {l : List UInt8} {ty : TypeId} {pos : String} {af : Array Edge} {body : Code} {Q : Exit → St → Prop}
    (hrn : C.rnd = none) (hck : ChunkOk C.P f) (hn0 : 0 < n) (hnb : n ≤ 4611686018427387904) (hl : l.length ≤ 140737488355328) (hp1 : Nat.blt p nt = true) (hq1 : Nat.blt q nt = true)
    (I : List Nat → List (Nat × Ob)) (J : List Nat → Prop) (h0 : Wk C s0 ⟨sl, I [], dk⟩) (j0 : J []) (hg : frc (look .bot sl t) = some (.chunk f l n))
    (ns : List Nat) (hns : ∀ t, ∀ o ∈ (look .bot sl t).nm, o ∈ ns) (hkn : ∀ d v, C.keep d v → ∀ o ∈ d.nm, o ∈ ns)
    (round : ∀ (C' : Ctx) (pre : List Nat) (k : Nat), Env C' Ti G nt → C'.P = C.P → (∀ d v, C'.keep d v → ∀ o ∈ d.nm, o ∈ ns) → J pre → k * n < l.length → pre.length < pcN l.length n → VC C' body ⟨(q, .rob (pc l n k)) :: (p, .rob (pc l n k)) :: sl, I pre, []⟩ (rq C' ⟨[], I (pre ++ [k]), []⟩ (J (pre ++ [k]))))
    (done : ∀ dk', J (List.range (pcN l.length n)) → Q .normal ⟨sl, I (List.range (pcN l.length n)), dk'⟩) :
    VC C (.rangeFunc (.tmp t) #[p] (.region id #[⟨some q, .assign (.tmp p), ty, pos, af, none⟩] false) body) s0 Q := by
  intro m0 a w hr0
  rw [hrn]
  obtain ⟨h1, h2, ρ, S, Φ0, h3', h4⟩ := h0 a w hr0
  have h3 := rep_cln h3'
  generalize hs : (⟨sl, I [], dk⟩ : St) = s at *
  have hslot : ∀ x, s.slot x = look .bot sl x := fun x => by rw [← hs]; rfl
  have hsh : s.hp = I [] := by rw [← hs]
  have hsd : s.dk = dk := by rw [← hs]
  let kp : D → Value → Prop := fun d v => C.keep d v ∨ ∃ t, d = s.slot t ∧ v = a.tmps.getD t undef
  have hin : RepW (rctx C w S (ownL s (cln s Φ0)) kp none) ⟨[], s.hp, []⟩ ρ S (cln s Φ0) w := rep_rin h3 (fun d v hk => by
    rcases hk with hk | ⟨t, rfl, rfl⟩
    · exact h3.rv d v hk
    · exact h4 t)
  have hv := h4 t
  rw [hslot, frc_ok hg] at hv
  have hval : ∃ b1 b2 A m cap, a.tmps.getD t undef = .func (.func f) #[] #[.pointer (some ⟨b1, 0, none⟩), .pointer (some ⟨b2, 0, none⟩)] ∧ S b1 ∧ S b2 ∧ RdS w S A m cap l ∧ w.cell? ⟨b1, 0, none⟩ = some (.slice A m cap) ∧ w.cell? ⟨b2, 0, none⟩ = some (.int .i64 n) := by
    generalize a.tmps.getD t undef = v at hv
    cases hv with
    | chunk _ _ _ b1 b2 A m cap h1 h2 h hc1 hc2 => exact ⟨b1, b2, A, m, cap, rfl, h1, h2, h, hc1, hc2⟩
  obtain ⟨b1, b2, A, m, cap, hval, hS1, hS2, hRd, hc1, hc2⟩ := hval
  have hml : l.length = m := hRd.len
  have hlt1 := h3.sc.lt hS1
  have hlt2 := h3.sc.lt hS2
  have hev : a.eval (.tmp t) = .func (.func f) #[] #[.pointer (some ⟨b1, 0, none⟩), .pointer (some ⟨b2, 0, none⟩)] := hval
  have hA : 0 < m → ∃ b off, A = some ⟨b, off, none⟩ := fun h => by
    obtain ⟨b, off, e, _⟩ := hRd.cells h
    exact ⟨_, _, e⟩
  let Iw : List (Ix_ m n) → World → Prop := fun pre W => J (pre.map (·.1)) ∧ ∃ ρ S' Φ, RepW (rctx C w S (ownL s (cln s Φ0)) kp none) ⟨[], I (pre.map (·.1)), []⟩ ρ S' Φ W
  have hnt : C.n = nt := hE.n
  have hpn : p < a.tmps.size := by rw [h2, hnt]; simpa [Nat.blt_eq] using hp1
  have hqn : q < a.tmps.size := by rw [h2, hnt]; simpa [Nat.blt_eq] using hq1
  refine (wpIn_wide (n := m0)).2 ((wpIn_wide (n := 5)).1 (wpIn_rangeFunc_ownH (F := Fence.wide) (n := 5) (w0 := w) rfl (by decide) hev trivial (fun args w => run_callf hck.1 args) (hck.2 n m b1 b2 A cap w hn0 hnb (by rw [← hml]; exact hl) hRd.le hA hlt1 hlt2 hc1 hc2)
    (fun {a b c} h h' => ⟨h'.1.trans h.1, h'.2.trans h.2⟩) (fun W x o o' hx _ _ _ => ⟨World.putObj_heap_other (by omega), World.putObj_heap_other (by omega)⟩) (Below.refl _ _) (fun _ => rfl) Iw (fun _ _ _ => False)
    (fun pre W W' row hi hgr hrow => ⟨hi.1, by obtain ⟨ρ, S', Φ, hr⟩ := hi.2; exact ⟨ρ, S', Φ, rep_grown hr rfl hgr hrow⟩⟩) (fun _ _ _ _ _ h _ _ => h.elim) ⟨j0, ρ, S, cln s Φ0, by rw [hsh] at hin; exact hin⟩
    (fun x a' _ => a' = { tmps := (a.tmps.setIfInBounds p (pv A m n x.1)).setIfInBounds q (pv A m n x.1), defers := [] }) (fun _ _ _ _ _ _ h _ _ => h) ?_ ?_ ?_ ?_))
  · -- the assignment
    intro lr pre x W K hi hK
    refine wpIn_region_list ?_
    show wpListIn _ _ _ _ _ [_] _ _
    unfold wpListIn
    refine step_in (l := some lr) (fun c e => by cases e) ?_
    rw [if_pos (by simp [Region.wanted])]
    have he : ({ tmps := (#[p].zip #[pv A m n x.1]).foldl (fun t (p, v) => t.setIfInBounds p v) a.tmps, defers := [] } : Act) = { tmps := a.tmps.setIfInBounds p (pv A m n x.1), defers := [] } := by simp
    rw [he]
    have hev2 : ({ tmps := a.tmps.setIfInBounds p (pv A m n x.1), defers := [] } : Act).eval (.tmp p) = pv A m n x.1 := by
      show (a.tmps.setIfInBounds p (pv A m n x.1)).getD p undef = _
      rw [getD_set hpn, if_pos rfl]
    refine wp_value (v := pv A m n x.1) (w' := W) (by simp [execOp, hev2]) ?_
    exact hK _ W (KeepsFrom.refl _ _) ⟨rfl, rfl⟩ hi rfl
  · -- the body
    intro lr pre x a' W hlr hrec hi hax hlen
    obtain ⟨hj, ρ1, S1, Φ1, hr1⟩ := hi
    have hr1c := rep_cln hr1
    have hkn' : ∀ d v, kp d v → ∀ o ∈ d.nm, o ∈ ns := fun d v hk => by
      rcases hk with hk | ⟨t, rfl, _⟩
      · exact hkn d v hk
      · rw [hslot]; exact hns t
    have hin2 := rep_rin (rnd := some lr) hr1c (fun d v hk => hr1c.rv d v hk)
    have hb1 : W.heap[b1]? = w.heap[b1]? := hr1c.fr b1 hlt1 (fun hm => by
      obtain ⟨o, c, hc, hbo⟩ := ownL_cln h3 hm
      exact ((h3.own o c hc).2 b1 hbo).1 hS1)
    obtain ⟨B, e0, hpv, hrd⟩ := rdS_pv (n := n) (show RdS W S1 A m cap l from by
      have := hr1c.rv (.chunk f l n) (a.tmps.getD t undef) (.inr ⟨t, by rw [hslot, frc_ok hg], rfl⟩)
      rw [hval] at this
      cases this with
      | chunk _ _ _ _ _ A' m' cap' _ _ h hc1' hc2' =>
        rw [World.cell?_of_block (a := ⟨b1, 0, none⟩) hb1, hc1] at hc1'
        injection hc1' with hc1'
        injection hc1' with q1 q2 q3
        subst q1; subst q2; subst q3
        exact h) x.2
    let C2 : Ctx := rctx (rctx C w S (ownL s (cln s Φ0)) kp none) W S1 (ownL ⟨[], I (pre.map (·.1)), []⟩ (cln ⟨[], I (pre.map (·.1)), []⟩ Φ1)) kp (some lr)
    have hrep : Rep C2 ⟨(q, .rob (pc l n x.1)) :: (p, .rob (pc l n x.1)) :: sl, I (pre.map (·.1)), []⟩ a' W := by
      subst hax
      refine ⟨rfl, (by show _ = C.n; simpa using h2), ρ1, S1, _, hin2.congr (fun _ => rfl) rfl, fun t' => ?_⟩
      show RV W S1 ρ1 _ (look .bot ((q, .rob (pc l n x.1)) :: (p, .rob (pc l n x.1)) :: sl) t') (((a.tmps.setIfInBounds p (pv A m n x.1)).setIfInBounds q (pv A m n x.1)).getD t' undef) []
      rw [getD_set (by simpa using hqn), getD_set hpn]
      simp only [look]
      by_cases e1 : q = t'
      · rw [if_pos e1, if_pos (show t' = q from e1.symm), hpv]; exact .rob _ _ _ _ hrd
      · rw [if_neg e1, if_neg (show ¬ t' = q from fun e => e1 e.symm)]
        by_cases e2 : p = t'
        · rw [if_pos e2, if_pos (show t' = p from e2.symm), hpv]; exact .rob _ _ _ _ hrd
        · rw [if_neg e2, if_neg (show ¬ t' = p from fun e => e2 e.symm)]
          exact hin2.rv _ _ (.inr ⟨t', (hslot t').symm, rfl⟩)
    have hvc := round C2 (pre.map (·.1)) x.1 ⟨hE.ti, hE.g, hE.n⟩ rfl hkn' hj (by rw [hml]; exact x.2) (by rw [hml, List.length_map]; exact hlen) 3 a' W hrep
    refine wpIn_mono hvc ?_
    rintro e a2 W2 ⟨s2, k1, k2⟩
    cases e with
    | normal =>
      obtain ⟨hwk, hj2⟩ := k2
      obtain ⟨_, _, ρ2, S2, Φ2, hr2, _⟩ := hwk a2 W2 k1
      have hnM : ∀ b, S1 b → b ∉ ownL ⟨[], I (pre.map (·.1)), []⟩ (cln ⟨[], I (pre.map (·.1)), []⟩ Φ1) := fun b hb hm => by
        obtain ⟨o, c, hc, hbo⟩ := ownL_cln hr1c hm
        exact ((hr1c.own o c hc).2 b hbo).1 hb
      have hout := rep_rout hr1c hr2 (fun d v h => h) rfl
      refine ⟨⟨hr2.size, fun k o hk hko hcl => ?_⟩, ⟨hr2.fr b1 ?_ ?_, hr2.fr b2 ?_ ?_⟩, by rw [List.map_append]; exact hj2, ρ2, S2, Φ2, by rw [List.map_append]; exact hout⟩
      · refine (hr2.fr k (Array.getElem?_eq_some_iff.1 hko).1 (fun hm => ?_)).trans hko
        obtain ⟨o', c, hc, hbo⟩ := ownL_cln hr1c hm
        obtain ⟨_, _, _, e⟩ := (hr1c.ob o' c hc).rows k hbo
        rw [hko] at e
        injection e with e
        subst e
        cases hcl
      · exact (hr1c.s1 b1 (hr1c.s0 b1 hS1)).1
      · exact hnM b1 (hr1c.s0 b1 hS1)
      · exact (hr1c.s1 b2 (hr1c.s0 b2 hS2)).1
      · exact hnM b2 (hr1c.s0 b2 hS2)
    | _ => exact k2.elim
  · -- behind the loop
    intro Dm xs W hD hSx hi hDef
    obtain ⟨hj, ρ', S', Φ', hr'⟩ := hi
    rw [hSx] at hj hr'
    have hout := rep_rout h3 hr' (fun d v h => .inl h) rfl
    have hout2 := hout.congr (s' := ⟨sl, I (List.range (pcN m n)), s.dk⟩) (fun _ => rfl) rfl
    have hmk := rep_mark hout2 Dm (Nat.le_trans h3.size hD) (fun hm => by
      have := (Array.getElem?_eq_some_iff.1 (h3.dk Dm hm)).1
      omega) hDef
    rw [← hml] at hmk hj
    refine ⟨_, ⟨?_, h2, ρ', S', Φ', hmk, fun x => ?_⟩, done (Dm :: s.dk) hj⟩
    · show _ :: a.defers = dfl (Dm :: s.dk)
      rw [h1]
      rfl
    · rw [← hml] at hr'
      exact hr'.rv _ _ (.inr ⟨x, (hslot x).symm, rfl⟩)
  · intro Dm c pre W _ _ h _
    exact h.elim
end Go.Proofs.YtocfhkmdkdjinaaDoor
