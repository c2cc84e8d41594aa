/- From a walk to a contract. Over any program. -/
import Derived.Test.YtpmbdppppnbmnaaVc
import Derived.RangeFuncLeaves
import Derived.RangeFuncRecord
namespace Go.Proofs.Ytpmbdppppnbmnaa
open Go Go.RowKit
set_option linter.unusedVariables false
set_option linter.unusedSimpArgs false

def numb : Nat → List D → List (Nat × D)
  | _, [] => []
  | i, d :: r => (i, d) :: numb (i + 1) r
/-- The state at a function's beginning. -/
def inSt (ins : List D) : St := ⟨numb 0 (adoptL ⟨[], [], []⟩ 900 ins).1, (adoptL ⟨[], [], []⟩ 900 ins).2.hp, []⟩
def resD (ts : List Nat) (s : St) : D :=
  match ts with
  | [t] => s.slot t
  | ts => .tup (ts.map s.slot)
def resV (ts : List Nat) (tmps : Array Value) : Value :=
  match ts with
  | [t] => tmps.getD t undef
  | ts => .tuple (ts.map fun t => tmps.getD t undef).toArray
/-- The end of a function. -/
def Fin (ts : List Nat) (res : D) (outs : Option (List D)) (s : St) : Prop :=
  ∃ own fro : List Nat, own.Nodup ∧ (∀ o ∈ own, o ∉ fro) ∧ s.dk = s.dk ∧
    match outs with
    | none => Mat s (.tup [resD ts s]) (.tup [res]) own fro
    | some cs => Mat s (.tup [resD ts s, .ptr 900 1 0]) (.tup [res, .ownp cs]) own fro
structure RetQ (ts : List Nat) (res : D) (outs : Option (List D)) (e : Exit) (s : St) : Prop where
  e : e = .normal ∨ e = .ret
  fin : Fin ts res outs s

theorem run_results {fn : Func} {ts : List Nat} (h : fn.results = (ts.map ResultVar.tmp).toArray) (hl : ts.length ≤ 5) (tmps : Array Value) (P : Program) (w : World) : (results fn tmps).run P w = .ok (resV ts tmps) w := by
  rcases ts with _ | ⟨a, _ | ⟨b, _ | ⟨c, _ | ⟨d, _ | ⟨e, _ | ⟨f, r⟩⟩⟩⟩⟩⟩
  · simp [results, h, resV]
  · simp [results, h, resV]
  · simp [results, h, resV]
  · simp [results, h, resV]
  · simp [results, h, resV]
  · simp [results, h, resV]
  · simp at hl
theorem resD_ok {w : World} {S : Nat → Prop} {ρ : Nat → Pl} {H : Nat → Sh} {s : St} {tmps : Array Value} (h : ∀ t, RV w S ρ H (s.slot t) (tmps.getD t undef) []) (ts : List Nat) : RV w S ρ H (resD ts s) (resV ts tmps) [] := by
  have key : RV w S ρ H (.tup (ts.map s.slot)) (.tuple (ts.map fun t => tmps.getD t undef).toArray) [] := RV.tup0 (by simp) fun i c u h1 h2 => by
    rw [List.getElem?_map] at h1 h2
    rcases hx : ts[i]? with _ | t
    · rw [hx] at h1; cases h1
    · rw [hx] at h1 h2
      injection h1 with h1
      injection h2 with h2
      subst h1; subst h2
      exact h t
  unfold resD resV
  rcases ts with _ | ⟨a, _ | ⟨b, r⟩⟩
  · exact key
  · exact h a
  · exact key
theorem numb_look : ∀ (ds : List D) (i t : Nat), look .bot (numb i ds) t = if i ≤ t then ds.getD (t - i) .bot else .bot
  | [], i, t => by simp [numb, look]
  | d :: r, i, t => by
    simp only [numb, look]
    rcases Nat.lt_trichotomy t i with h | h | h
    · rw [if_neg (by omega), if_neg (by omega), numb_look r (i + 1) t, if_neg (by omega)]
    · subst h; simp
    · rw [if_neg (by omega), if_pos (by omega), numb_look r (i + 1) t, if_pos (by omega)]
      have : t - i = (t - (i + 1)) + 1 := by omega
      rw [this, List.getD_cons_succ]
theorem base_rep {P : Program} {G : Nat → Option D} {w : World} {S : Nat → Prop} {M : List Nat} (gp : ∀ g cs, G g = some cs → cs.pf0 = true) (n : Nat) (hS : SOk w S) (hG : GlOk G w S) :
    RepW ⟨P, w, M, S, G, gp, n, fun _ _ => False, none⟩ ⟨[], [], []⟩ ρ0 S (fun _ => []) w :=
  ⟨rfl, rfl, rfl, Nat.le_refl _, Szs.refl w, fun _ _ _ => rfl, fun _ h => h, fun b hb => ⟨hS.lt hb, .inl hb⟩, hS, fun g cs hg => hG g cs hg, fun o c hc => (by cases hc), fun d v hv => hv.elim, fun r hr => (by cases hr), ⟨by simp, by simp⟩, fun o c hc => (by cases hc), fun o o' c c' hc => (by cases hc)⟩
theorem rep_recv {C : Ctx} {s : St} {ρ : Nat → Pl} {S : Nat → Prop} {Φ : Nat → List Nat} {w : World} (h : RepW C s ρ S Φ w) (r : D → Value → Prop) (hr : ∀ d v, r d v → RV w S ρ s.sh d v []) : RepW { C with keep := r } s ρ S Φ w :=
  ⟨h.os, h.tape, h.output, h.size, h.szs, h.fr, h.s0, h.s1, h.sc, h.gl, h.ob, hr, h.dk, h.dkn, h.own, h.dis⟩
/-- The receiver is the first of the arguments. -/
def OutOk (ins : List D) : Option (List D) → Prop
  | none => True
  | some _ => ∃ cs r, ins = .ownp cs :: r
/-- What a walk may know of its call. -/
structure CxOk (P : Program) (Ti : Nat → TI) (G : Nat → Option D) (n : Nat) (outs : Option (List D)) (C : Ctx) : Prop where
  env : Env C Ti G n
  p : C.P = P
  recv : outs = none → ∀ d v, ¬ C.keep d v
  recv9 : ∀ d v, C.keep d v → d = .ptr 900 1 0
  rn : C.rnd = none

/-- How a call begins. -/
theorem in_rep {P : Program} {G : Nat → Option D} {ins : List D} {outs : Option (List D)} {n : Nat} (gp : ∀ g cs, G g = some cs → cs.pf0 = true) (had : ins.all D.ad1 = true) (hn : ins.length ≤ n) (ho : OutOk ins outs)
    {w : World} {S : Nat → Prop} {vs : List Value} {Fs : List (List Nat)} (hS : SOk w S) (hG : GlOk G w S) (h1 : vs.length = ins.length) (h2 : Fs.length = ins.length)
    (h3 : ∀ (i : Nat) (d : D) (v : Value) (F : List Nat), ins[i]? = some d → vs[i]? = some v → Fs[i]? = some F → NV w S d v F) (h4 : Fs.flatten.Nodup) (h5 : ∀ b ∈ Fs.flatten, ¬ S b ∧ b < w.heap.size) :
    Rep ⟨P, w, Fs.flatten, S, G, gp, n, fun d v => outs.isSome = true ∧ d = .ptr 900 1 0 ∧ v = vs.getD 0 undef, none⟩ (inSt ins) { tmps := vs.toArray ++ Array.replicate (n - vs.length) undef, defers := [] } w := by
  obtain ⟨ρ', Φ', k1, k2, k3, k4⟩ := adoptL_ok ins ⟨[], [], []⟩ ρ0 (fun _ => []) 900 vs Fs [] (base_rep (P := P) (M := Fs.flatten) gp n hS hG) had h1 h2 (by
    rw [List.append_nil]
    exact ⟨h4, fun b hb => ⟨(h5 b hb).1, (h5 b hb).2, .inr hb, by simp, fun o c hc => by cases hc⟩⟩) h3
  have hsh : (inSt ins).sh = (adoptL ⟨[], [], []⟩ 900 ins).2.sh := rfl
  have k1' : RepW ⟨P, w, Fs.flatten, S, G, gp, n, fun _ _ => False, none⟩ (inSt ins) ρ' S Φ' w := k1.congr (fun o => rfl) (by
    show [] = (adoptL ⟨[], [], []⟩ 900 ins).2.dk
    rw [adLO_eq]
    rw [lays_dk])
  refine ⟨rfl, by simp; omega, ρ', S, Φ', rep_recv (r := fun d v => outs.isSome = true ∧ d = .ptr 900 1 0 ∧ v = vs.getD 0 undef) k1' (fun d v hv => ?_), fun t => ?_⟩
  · rcases outs with _ | cs
    · cases hv.1
    · obtain ⟨cs0, r, rfl⟩ := ho
      obtain ⟨_, rfl, hv⟩ := hv
      have e : vs.getD 0 undef = v := hv.symm
      have h0 : 0 < vs.length := by rw [h1]; simp
      have := k3.2 0 _ (vs.getD 0 undef) (by simp [adoptL]; rfl) (by simp [List.getD_eq_getElem?_getD, h0])
      rw [e] at this
      exact this
  · rw [hsh]
    show RV w S ρ' _ (look .bot (numb 0 (adoptL ⟨[], [], []⟩ 900 ins).1) t) _ []
    rw [numb_look, if_pos (Nat.zero_le _), Nat.sub_zero]
    have hlen : (adoptL ⟨[], [], []⟩ 900 ins).1.length = vs.length := k3.1.symm
    rcases Nat.lt_or_ge t vs.length with ht | ht
    · have e : ((vs.toArray ++ Array.replicate (n - vs.length) undef).getD t undef) = vs[t] := by
        simp [Array.getD_eq_getD_getElem?, Array.getElem?_append, ht]
      rw [e]
      exact k3.2 t _ _ (by simp [List.getD_eq_getElem?_getD, show t < (adoptL ⟨[], [], []⟩ 900 ins).1.length by omega]) (List.getElem?_eq_getElem ht)
    · have : (adoptL ⟨[], [], []⟩ 900 ins).1.getD t .bot = .bot := by
        simp [List.getD_eq_getElem?_getD, show (adoptL ⟨[], [], []⟩ 900 ins).1[t]? = none from List.getElem?_eq_none (by omega)]
      rw [this]
      exact .bot _
/-- How a call ends. -/
theorem fin_post {C : Ctx} {s : St} {a : Act} {w' : World} {ts : List Nat} {res : D} {outs : Option (List D)} (hr : Rep C s a w') (hf : Fin ts res outs s) (v0 : Value) (hv0 : outs.isSome = true → C.keep (.ptr 900 1 0) v0) :
    FCPost C.w0 C.S0 v0 C.M res outs (.returned (resV ts a.tmps)) w' := by
  obtain ⟨own, fro, hnd, hdis, hdk, hm⟩ := hf
  obtain ⟨_, _, ρ, S, Φ, h3, h4⟩ := hr
  have hS' : ∀ b, Lent s ρ S Φ fro b → b < w'.heap.size ∧ (C.S0 b ∨ C.w0.heap.size ≤ b ∨ b ∈ C.M) := fun b hb => lent_lt h3 hb
  have key : ∀ {F : List Nat}, (∀ b ∈ F, ∃ o ∈ own, (s.ob o).ct.isSome = true ∧ b ∈ Φ o) → ∀ b ∈ F, ¬ Lent s ρ S Φ fro b ∧ b < w'.heap.size ∧ (C.w0.heap.size ≤ b ∨ b ∈ C.M) := fun hF b hb => by
    obtain ⟨o, ho, hl, hbo⟩ := hF b hb
    obtain ⟨c, hc⟩ := Option.isSome_iff_exists.1 hl
    have := (h3.own o c hc).2 b hbo
    exact ⟨lent_own h3 hdis ho hl hbo, this.2.1, this.2.2.1⟩
  have hres := resD_ok h4 ts
  rcases outs with _ | cs
  · have hp : PR w' S ρ s.sh [resD ts s] [resV ts a.tmps] := ⟨rfl, fun i c u p1 p2 => by
      rcases i with _ | i
      · simp at p1 p2; subst p1; subst p2; exact hres
      · simp at p1⟩
    obtain ⟨F, k1, k2, k3⟩ := hm.sound h3 (S' := Lent s ρ S Φ fro) (fun b hb => .inl hb) (lent_ok h3 fro) hnd hp.tup
    obtain ⟨vs', Fs, e', q1, q2, q3, q4⟩ := nv_tup k1
    obtain rfl := tuple_inj e'
    rcases Fs with _ | ⟨F1, _ | ⟨F2, Fs⟩⟩
    · simp at q2
    · have e1 : F = F1 := by simpa using q3
      subst e1
      exact ⟨_, F, [], Lent s ρ S Φ fro, rfl, h3.os, h3.tape, h3.output, h3.size, h3.szs, h3.fr, fun b hb => .inl (h3.s0 b hb), hS', lent_c h3 fro, q4 0 _ _ _ rfl rfl rfl, rfl, by simpa using k2, fun b hb => key k3 b (by simpa using hb)⟩
    · simp at q2
  · have hp : PR w' S ρ s.sh [resD ts s, .ptr 900 1 0] [resV ts a.tmps, v0] := ⟨rfl, fun i c u p1 p2 => by
      rcases i with _ | _ | i
      · simp at p1 p2; subst p1; subst p2; exact hres
      · simp at p1 p2; subst p1; subst p2; exact h3.rv _ _ (hv0 rfl)
      · simp at p1⟩
    obtain ⟨F, k1, k2, k3⟩ := hm.sound h3 (S' := Lent s ρ S Φ fro) (fun b hb => .inl hb) (lent_ok h3 fro) hnd hp.tup
    obtain ⟨vs', Fs, e', q1, q2, q3, q4⟩ := nv_tup k1
    obtain rfl := tuple_inj e'
    rcases Fs with _ | ⟨F1, _ | ⟨F2, _ | ⟨F3, Fs⟩⟩⟩
    · simp at q2
    · simp at q2
    · have e1 : F = F1 ++ F2 := by simpa using q3
      subst e1
      exact ⟨_, F1, F2, Lent s ρ S Φ fro, rfl, h3.os, h3.tape, h3.output, h3.size, h3.szs, h3.fr, fun b hb => .inl (h3.s0 b hb), hS', lent_c h3 fro, q4 0 _ _ _ rfl rfl rfl, q4 1 _ _ _ rfl rfl rfl, k2, key k3⟩
    · simp at q2
/-- FROM A WALK TO A CONTRACT. -/
theorem wp_of_wide {P : Program} {c : Code} {Q : Exit → Act → World → Prop} {a : Act} {w : World} {n : Nat} (h : c.wp P Q a w) : c.wpIn Fence.wide n P Q a w := wpIn_wide.2 h
/-- The marks are gone, all else is as it was. -/
theorem rep_undk {C : Ctx} {s : St} {a : Act} {w w' : World} (h : Rep C s a w) (h1 : w'.os = w.os) (h2 : w'.tape = w.tape) (h3 : w'.output = w.output) (h4 : w'.heap.size = w.heap.size) (h5 : ∀ b, b ∉ s.dk → w'.heap[b]? = w.heap[b]?) : Rep C ⟨s.sl, s.hp, []⟩ { a with defers := [] } w' := by
  obtain ⟨q1, q2, ρ, S, Φ, r, q4⟩ := h
  have hwS : ∀ b, S b → w'.heap[b]? = w.heap[b]? := fun b hb => h5 b fun hd => (r.dkn.2 b hd).2 hb
  have hm : ∀ {d v}, RV w S ρ s.sh d v [] → RV w' S ρ s.sh d v [] := fun hr => hr.mono (fun _ h => h) hwS (fun _ => ⟨Nat.le_refl _, fun _ => ⟨rfl, rfl⟩⟩) (by simp)
  refine ⟨rfl, q2, ρ, S, Φ, ⟨h1.trans r.os, h2.trans r.tape, h3.trans r.output, by rw [h4]; exact r.size, fun b cur E fz hb => ?_, fun b hb hM => (h5 b fun hd => by have := (r.dkn.2 b hd).1; omega).trans (r.fr b hb hM), r.s0, fun b hb => by rw [h4]; exact r.s1 b hb, r.sc.same hwS, fun g cs hg => hm (r.gl g cs hg),
    fun o c hc => (r.ob o c hc).mono (fun _ h => h) hwS (fun _ => ⟨Nat.le_refl _, fun _ => ⟨rfl, rfl⟩⟩) (fun b hb => h5 b ((r.own o c hc).2 b hb).2.2.2), fun d v hv => hm (r.rv d v hv), by simp, ⟨by simp, by simp⟩,
    fun o c hc => ⟨(r.own o c hc).1, fun b hb => ⟨((r.own o c hc).2 b hb).1, by rw [h4]; exact ((r.own o c hc).2 b hb).2.1, ((r.own o c hc).2 b hb).2.2.1, by simp⟩⟩, r.dis⟩, fun t => hm (q4 t)⟩
  obtain ⟨cur', E', fz', k1, k2⟩ := r.szs b cur E fz hb
  refine ⟨cur', E', fz', (h5 b fun hd => ?_).trans k1, k2⟩
  have := r.dk b hd
  rw [k1] at this
  cases this
/-- The marks that ranges over functions have left are taken away. -/
theorem leaves_marks {P : Program} {fn : Func} {n : Nat} {tmps : Array Value} {R : Ending → World → Prop} {v : Value} : ∀ (l : List Nat) (w : World), l.Nodup → (∀ r ∈ l, w.heap[r]? = some (.deferred (some []))) →
    (∀ w', w'.os = w.os → w'.tape = w.tape → w'.output = w.output → w'.heap.size = w.heap.size → (∀ b, b ∉ l → w'.heap[b]? = w.heap[b]?) → (results fn tmps).run P w' = .ok v w' ∧ R (.returned v) w') → LeavesInM Fence.wide n P fn tmps R (dfl l) .returning w
  | [], w, _, _, h => by
    obtain ⟨h1, h2⟩ := h w rfl rfl rfl rfl (fun _ _ => rfl)
    exact ⟨v, h1, h2⟩
  | r :: l, w, hn, hd, h => by
    have hr := hd r (by simp)
    refine ⟨by simp, .inl ⟨r, _, rfl, run_takeDeferred hr, ?_⟩⟩
    rw [List.nodup_cons] at hn
    refine leaves_marks (v := v) l _ hn.2 (fun x hx => ?_) (fun w' h1 h2 h3 h4 h5 => ?_)
    · rw [World.putObj_heap_other (by rintro rfl; exact hn.1 hx)]
      exact hd x (by simp [hx])
    · refine h w' h1 h2 h3 (h4.trans (by simp)) (fun b hb => ?_)
      simp only [List.mem_cons, not_or] at hb
      rw [h5 b hb.2, World.putObj_heap_other (by first | exact hb.1 | exact fun e => hb.1 e.symm)]
/-- FROM A WALK TO A CONTRACT. -/
theorem fc_of {P : Program} {Ti : Nat → TI} {G : Nat → Option D} {f : Nat} {fn : Func} {c : Code} {ins : List D} {res : D} {outs : Option (List D)} {ts : List Nat} (hti : tiOf P = Ti) (gp : ∀ g cs, G g = some cs → cs.pf0 = true)
    (hf : P.funcs[f]? = some fn) (hb : fn.body = some c) (hrs : fn.results = (ts.map ResultVar.tmp).toArray) (hl : ts.length ≤ 5) (hn : ins.length ≤ fn.ntmps) (had : ins.all D.ad1 = true) (ho : OutOk ins outs)
    (h : ∀ C, CxOk P Ti G fn.ntmps outs C → VC C c (inSt ins) (RetQ ts res outs)) : FC P G f ins res outs := by
  intro w S vs Fs hS hG h1 h2 h3 h4 h5
  refine (callsIn_wide (n := 3)).1 (callsIn_of_wp_marks hf hb trivial ?_)
  have hrep := in_rep (P := P) (n := fn.ntmps) (outs := outs) gp had hn ho hS hG h1 h2 h3 h4 h5
  have hw := h _ ⟨⟨hti, rfl, rfl⟩, rfl, fun e d v h => (by subst e; have h' : (none : Option (List D)).isSome = true ∧ _ := h; cases h'.1), fun d v h => (show _ ∧ d = .ptr 900 1 0 ∧ _ from h).2.1, rfl⟩ 3 _ _ hrep
  have e : vs.toArray.size = vs.length := by simp
  rw [e]
  refine wpIn_mono hw ?_
  rintro e a' w' ⟨s', k1, k2, k3⟩
  have hk : Fin ts res outs ⟨s'.sl, s'.hp, []⟩ := by
    obtain ⟨own, fro, g1, g2, _, g4⟩ := k3
    refine ⟨own, fro, g1, g2, rfl, ?_⟩
    rcases outs with _ | cs
    · exact g4.loc (σ := ⟨s'.sl, s'.hp, []⟩) (fun _ _ => rfl)
    · exact g4.loc (σ := ⟨s'.sl, s'.hp, []⟩) (fun _ _ => rfl)
  have key : LeavesInM Fence.wide 3 P fn a'.tmps (FCPost w S (vs.getD 0 undef) Fs.flatten res outs) a'.defers .returning w' := by
    obtain ⟨_, _, ρ, S', Φ, r, _⟩ := id k1
    rw [k1.1]
    refine leaves_marks (v := resV ts a'.tmps) s'.dk w' r.dkn.1 r.dk (fun w'' e1 e2 e3 e4 e5 => ⟨run_results hrs hl _ _ _, ?_⟩)
    exact fin_post (rep_undk k1 e1 e2 e3 e4 e5) hk (vs.getD 0 undef) (fun hs => ⟨hs, rfl, rfl⟩)
  rcases k2 with rfl | rfl
  · exact key
  · exact key
end Go.Proofs.Ytpmbdppppnbmnaa
