/- The effect of a call by a contract. Over any program. -/
import Derived.Test.YtpmbdppppnbmnaaOpw
namespace Go.Proofs.Ytpmbdppppnbmnaa
open Go Go.RowKit
set_option linter.unusedVariables false
set_option linter.unusedSimpArgs false

/-- What is taken in: the value, and the objects. -/
def ad1O (O : Nat → Ob) (t : Nat) (d : D) : D × List (Nat × Ob) :=
  match d with
  | .ownb l => (.sl t ((O t).sh.gen + 1) 0 l.length, [(t, ⟨⟨(O t).sh.gen + 1, 1, l.length⟩, some (.bytes l)⟩)])
  | .owns e n cs => (.sl t ((O t).sh.gen + 1) 0 n, [(t, ⟨⟨(O t).sh.gen + 1, e, cs.length⟩, some (.cells cs)⟩)])
  | .ownp cs => (.ptr t ((O t).sh.gen + 1) 0, [(t, ⟨⟨(O t).sh.gen + 1, 1, cs.length⟩, some (.cells cs)⟩)])
  | d => (d, [])
def adLO (O : Nat → Ob) (t : Nat) : List D → List D × List (Nat × Ob)
  | [] => ([], [])
  | d :: ds => ((ad1O O t d).1 :: (adLO O (t + 1000) ds).1, (ad1O O t d).2 ++ (adLO O (t + 1000) ds).2)
def adO (O : Nat → Ob) (t : Nat) (d : D) : D × List (Nat × Ob) :=
  match d with
  | .tup ds => (.tup (adLO O t ds).1, (adLO O t ds).2)
  | d => ad1O O t d
def outO (s : St) (outs : Option (List D)) (own : List Nat) : List (Nat × Ob) :=
  match outs, own with
  | some cs, [o] => [(o, ⟨(s.ob o).sh, some (.cells cs)⟩)]
  | _, _ => []

section
variable {C : Ctx} {s σ : St}
theorem lays_append (s : St) (a b : List (Nat × Ob)) : s.lays (a ++ b) = (s.lays a).lays b := by
  induction a generalizing s with
  | nil => rfl
  | cons x a ih => obtain ⟨o, ob⟩ := x; exact ih _
theorem lays_ob (s : St) (l : List (Nat × Ob)) (x : Nat) (h : ∀ p ∈ l, p.1 ≠ x) : (s.lays l).ob x = s.ob x := by
  induction l generalizing s with
  | nil => rfl
  | cons p l ih =>
    obtain ⟨o, ob⟩ := p
    show ((s.lay o ob).lays l).ob x = _
    rw [ih _ (fun p hp => h p (by simp [hp])), St.ob_lay, if_neg (fun e => h (o, ob) (by simp) e.symm)]
theorem lays_dk (s : St) (l : List (Nat × Ob)) : (s.lays l).dk = s.dk := by
  induction l generalizing s with
  | nil => rfl
  | cons p l ih => obtain ⟨o, ob⟩ := p; exact ih _
theorem lays_slot (s : St) (l : List (Nat × Ob)) (t : Nat) : (s.lays l).slot t = s.slot t := by
  induction l generalizing s with
  | nil => rfl
  | cons p l ih => obtain ⟨o, ob⟩ := p; exact ih _
theorem ad1O_eq (s : St) (t : Nat) (d : D) : adopt1 s t d = ((ad1O s.ob t d).1, s.lays (ad1O s.ob t d).2) := by cases d <;> rfl
theorem ad1O_names (O : Nat → Ob) (t : Nat) (d : D) : ∀ p ∈ (ad1O O t d).2, p.1 = t := by
  intro p hp
  cases d <;> simp [ad1O] at hp <;> simp [hp]
theorem ad1O_loc {O O' : Nat → Ob} (t : Nat) (d : D) (h : ∀ p ∈ (ad1O O t d).2, (O' p.1).sh.gen = (O p.1).sh.gen) : ad1O O' t d = ad1O O t d := by
  cases d <;> first | rfl | (simp only [ad1O] at h ⊢; have := h _ (List.mem_singleton.2 rfl); simp only at this; rw [this])
theorem adLO_names (O : Nat → Ob) : ∀ (ds : List D) (t : Nat), ∀ p ∈ (adLO O t ds).2, t ≤ p.1
  | [], t => by intro p hp; cases hp
  | d :: ds, t => by
    intro p hp
    simp only [adLO, List.mem_append] at hp
    rcases hp with hp | hp
    · have := ad1O_names O t d p hp; omega
    · have := adLO_names O ds (t + 1000) p hp; omega
theorem adLO_loc {O O' : Nat → Ob} : ∀ (ds : List D) (t : Nat), (∀ p ∈ (adLO O t ds).2, (O' p.1).sh.gen = (O p.1).sh.gen) → adLO O' t ds = adLO O t ds
  | [], t, _ => rfl
  | d :: ds, t, h => by
    simp only [adLO] at h ⊢
    rw [ad1O_loc t d (fun p hp => h p (List.mem_append_left _ hp)), adLO_loc ds (t + 1000) (fun p hp => h p (List.mem_append_right _ hp))]
theorem adLO_eq : ∀ (ds : List D) (s : St) (t : Nat), adoptL s t ds = ((adLO s.ob t ds).1, s.lays (adLO s.ob t ds).2)
  | [], s, t => rfl
  | d :: ds, s, t => by
    simp only [adoptL, adLO]
    rw [ad1O_eq]
    simp only
    rw [adLO_eq ds (s.lays (ad1O s.ob t d).2) (t + 1000), lays_append]
    have : adLO (s.lays (ad1O s.ob t d).2).ob (t + 1000) ds = adLO s.ob (t + 1000) ds := adLO_loc ds (t + 1000) (fun p hp => congrArg (fun b => b.sh.gen) (lays_ob s _ _ (fun q hq => by
      have h1 := adLO_names s.ob ds (t + 1000) p hp
      have h2 := ad1O_names s.ob t d q hq
      omega)))
    rw [this]
theorem tup_or (d : D) : (∃ ds, d = .tup ds) ∨ ((∀ s t, adopt s t d = adopt1 s t d) ∧ ∀ O t, adO O t d = ad1O O t d) := by
  cases d <;> first | exact .inr ⟨fun _ _ => rfl, fun _ _ => rfl⟩ | exact .inl ⟨_, rfl⟩
theorem adO_eq (s : St) (t : Nat) (d : D) : adopt s t d = ((adO s.ob t d).1, s.lays (adO s.ob t d).2) := by
  rcases tup_or d with ⟨ds, rfl⟩ | ⟨h1, h2⟩
  · simp only [adopt, adO, adLO_eq]
  · rw [h1, h2]; exact ad1O_eq s t d
theorem adO_loc {O O' : Nat → Ob} (t : Nat) (d : D) (h : ∀ p ∈ (adO O t d).2, (O' p.1).sh.gen = (O p.1).sh.gen) : adO O' t d = adO O t d := by
  rcases tup_or d with ⟨ds, rfl⟩ | ⟨h1, h2⟩
  · simp only [adO] at h ⊢; rw [adLO_loc ds t h]
  · rw [h2] at h; rw [h2, h2]; exact ad1O_loc t d h
theorem outO_sh (s : St) (outs : Option (List D)) (own : List Nat) (x : Nat) : ((s.lays (outO s outs own)).ob x).sh = (s.ob x).sh := by
  unfold outO
  rcases outs with _ | cs
  · rfl
  · rcases own with _ | ⟨o, _ | ⟨o', own⟩⟩
    · rfl
    · show ((s.lay o _).ob x).sh = _
      rw [St.ob_lay]
      split
      · rename_i e; subst e; rfl
      · rfl
    · rfl
theorem outO_eq (s : St) (outs : Option (List D)) (own : List Nat) : outS s outs own = s.lays (outO s outs own) := by
  unfold outS outO
  rcases outs with _ | cs
  · rfl
  · rcases own with _ | ⟨o, _ | ⟨o', own⟩⟩ <;> rfl
theorem Mat.loc {d d' : D} {own fro : List Nat} (h : Mat s d d' own fro) : (∀ o ∈ own ++ fro, σ.ob o = s.ob o) → Mat σ d d' own fro := by
  induction h with
  | plain d h => intro _; exact .plain d h
  | bot d => intro _; exact .bot d
  | nil_b => intro _; exact .nil_b
  | nil_rb => intro _; exact .nil_rb
  | nil_s e => intro _; exact .nil_s e
  | nil_rs e => intro _; exact .nil_rs e
  | sl_b o g off len l ho hg he => intro h; have e := h o (by simp); exact .sl_b o g off len l (by rw [e]; exact ho) (by unfold St.sh; rw [e]; exact hg) (by unfold St.sh; rw [e]; exact he)
  | sl_rb o g off len l ho hg he => intro h; have e := h o (by simp); exact .sl_rb o g off len l (by rw [e]; exact ho) (by unfold St.sh; rw [e]; exact hg) (by unfold St.sh; rw [e]; exact he)
  | sl_s o g off len e cs cs' own fro ho hg he h0 hsc hm ih => intro h; have q := h o (by simp); exact .sl_s o g off len e cs cs' own fro (by rw [q]; exact ho) (by unfold St.sh; rw [q]; exact hg) (by unfold St.sh; rw [q]; exact he) h0 hsc (ih fun x hx => h x (by simp at hx ⊢; rcases hx with hx | hx <;> simp [hx]))
  | sl_rs o g off len e cs cs' fro ho hg he h0 hsc hm ih => intro h; have q := h o (by simp); exact .sl_rs o g off len e cs cs' fro (by rw [q]; exact ho) (by unfold St.sh; rw [q]; exact hg) (by unfold St.sh; rw [q]; exact he) h0 hsc (ih fun x hx => h x (by simp at hx ⊢; simp [hx]))
  | sl_f o g len e cs ho hg he h0 hl hf => intro h; have q := h o (by simp); exact .sl_f o g len e cs (by rw [q]; exact ho) (by unfold St.sh; rw [q]; exact hg) (by unfold St.sh; rw [q]; exact he) h0 hl hf
  | ptr_f o g cs ho hg hf h0 => intro h; have q := h o (by simp); exact .ptr_f o g cs (by rw [q]; exact ho) (by unfold St.sh; rw [q]; exact hg) hf h0
  | ptr o g cs cs' own fro ho hg hsc h0 hm ih => intro h; have q := h o (by simp); exact .ptr o g cs cs' own fro (by rw [q]; exact ho) (by unfold St.sh; rw [q]; exact hg) hsc h0 (ih fun x hx => h x (by simp at hx ⊢; rcases hx with hx | hx <;> simp [hx]))
  | agg cs cs' own fro hm ih => intro h; exact .agg cs cs' own fro (ih h)
  | tnil => intro _; exact .tnil
  | tcons d d' ds ds' o1 o2 f1 f2 hm hms ih ihs => intro h; exact .tcons d d' ds ds' o1 o2 f1 f2 (ih fun x hx => h x (by simp at hx ⊢; rcases hx with hx | hx <;> simp [hx])) (ihs fun x hx => h x (by simp at hx ⊢; rcases hx with hx | hx <;> simp [hx]))
  | tall ds h => intro _; exact .tall ds h
  | cnv d d1 d2 own fro hm hc ih => intro h; exact .cnv d d1 d2 own fro (ih h) hc
  | tapp a a' b b' o1 o2 f1 f2 hm hms ih ihs => intro h; exact .tapp a a' b b' o1 o2 f1 f2 (ih fun x hx => h x (by simp at hx ⊢; rcases hx with hx | hx <;> simp [hx])) (ihs fun x hx => h x (by simp at hx ⊢; rcases hx with hx | hx <;> simp [hx]))

/-- A function that is called as it stands in the program. -/
def fnOk (P : Program) (f : Nat) : Prop := ∃ fn, P.funcs[f]? = some fn ∧ (fn.name == "runtime.NumGoroutine") = false ∧ fn.body.isNone = false
theorem run_callf {P : Program} {w : World} {f : Nat} (h : fnOk P f) (args : Array Value) : (callFunc f args).run P w = .ok (.enter f args) w := by
  obtain ⟨fn, h1, h2, h3⟩ := h
  have h2' : ¬ fn.name = "runtime.NumGoroutine" := by simpa using h2
  have h3' : ¬ fn.body = none := by intro e; rw [e] at h3; cases h3
  simp [callFunc, h1, h2', h3']
/-- The conditions on a call's receiver. -/
def RcvOk (s : St) (outs : Option (List D)) (own : List Nat) (ds : List D) : Prop :=
  match outs with
  | none => own = []
  | some cs => ∃ o g ds', own = [o] ∧ ds = .ptr o g 0 :: ds' ∧ g = (s.ob o).sh.gen ∧ (s.ob o).ct.isSome = true ∧ cs.all D.fr0 = true ∧ 0 < cs.length ∧ (s.ob o).sh.clen = cs.length

theorem eff_call {P : Program} {G : Nat → Option D} {dst : Option Tmp} {ty : TypeId} {pos : String} {after : Array Edge} {gd : Option (Nat × Bool)} {fo : Operand} {xs : List Operand} {ts : Array TypeId} {f : Nat} (hf : ev C s fo = .fn f) (hok : fnOk P f)
    {ins : List D} {res : D} {outs : Option (List D)} (fc : FC P G f ins res outs) (hP : C.P = P) (hG : C.G = G) {own fro : List Nat} (hm : Mat s (.tup (xs.map (ev C s))) (.tup ins) own fro) (hnd : own.Nodup) (hdis : ∀ o ∈ own, o ∉ fro)
    (hnr : fro = [] ∨ (res.nr = true ∧ ∀ cs, outs = some cs → cs.all D.nr0 = true)) (had : res.ad = true) (hout : RcvOk s outs own (xs.map (ev C s))) (hd : dstOk C.n dst) :
    Eff C ⟨dst, .call { callee := .value fo, args := xs.toArray, argTypes := ts }, ty, pos, after, gd⟩ s (adO s.ob (dst.getD 0) res).1 (outO s outs own ++ (adO s.ob (dst.getD 0) res).2) (opT fo ++ xs.flatMap opT) (own ++ fro ++ (adO s.ob (dst.getD 0) res).2.map (·.1)) := by
  subst hP hG
  intro σ hT hR K Q a w hrep hK
  obtain ⟨h1, h2, ρ, S, Φ, h3, h4⟩ := hrep
  have hfv : a.eval fo = .func (.func f) #[] #[] := by
    have := ev_rv h3 h4 fo
    rw [ev_same (C := C) (fun t ht => hT t (List.mem_append_left _ ht)), hf] at this
    generalize a.eval fo = v at this
    cases this
    rfl
  have hxs : xs.map (ev C σ) = xs.map (ev C s) := List.map_congr_left fun x hx => ev_same fun t ht => hT t (List.mem_append_right _ (List.mem_flatMap.2 ⟨x, hx, ht⟩))
  have hpr : PR w S ρ σ.sh (xs.map (ev C σ)) (xs.map a.eval) := ⟨by simp, fun i c u p1 p2 => by
    rw [List.getElem?_map] at p1 p2
    rcases hx : xs[i]? with _ | x
    · rw [hx] at p1; cases p1
    · rw [hx] at p1 p2
      injection p1 with p1
      injection p2 with p2
      subst p1; subst p2
      exact ev_rv h3 h4 x⟩
  rw [hxs] at hpr
  have hsame : ∀ o ∈ own ++ fro, σ.ob o = s.ob o := fun o ho => hR o (by simp at ho ⊢; rcases ho with ho | ho <;> simp [ho])
  have hm' := hm.loc hsame
  have hout' : match outs with | none => own = [] | some cs => ∃ o g ds', own = [o] ∧ xs.map (ev C s) = .ptr o g 0 :: ds' ∧ g = (σ.sh o).gen ∧ (σ.ob o).ct.isSome = true ∧ cs.all D.fr0 = true ∧ 0 < cs.length ∧ (σ.sh o).clen = cs.length := by
    unfold RcvOk at hout
    rcases outs with _ | cs
    · exact hout
    · obtain ⟨o, g, ds', q1, q2, q3, q4, q5, q6, q7⟩ := hout
      have e := hsame o (by rw [q1]; simp)
      exact ⟨o, g, ds', q1, q2, by unfold St.sh; rw [e]; exact q3, by rw [e]; exact q4, q5, q6, by unfold St.sh; rw [e]; exact q7⟩
  have hcall := call_ok h3 fc hpr hm' hnd hdis hnr had (by cases outs <;> exact hout') (dst.getD 0)
  have hoo : outO σ outs own = outO s outs own := by
    unfold outO
    split
    · rw [hsame _ (by simp)]
    · rfl
  have hadO : adO (σ.lays (outO s outs own)).ob (dst.getD 0) res = adO s.ob (dst.getD 0) res := adO_loc _ _ fun p hp => by
    rw [← hoo, outO_sh, hR p.1 (by simp; exact .inr (.inr ⟨_, hp⟩))]
  unfold Oper.wp
  have hrun : (execOp a.eval ⟨dst, .call { callee := .value fo, args := xs.toArray, argTypes := ts }, ty, pos, after, gd⟩).run C.P w = .ok (.enter f (xs.map a.eval).toArray) w := by
    simp only [execOp, resolve, Sem.run_bind]
    simp [Deferred.ofValue, hfv, invoke, run_callf hok]
  rw [hrun]
  show Calls _ _ _ _ _
  refine hcall.mono ?_
  rintro e w' ⟨v, ρ', S', Φ', rfl, k1, k2, k3⟩
  rw [outO_eq, adO_eq, hoo, hadO] at k1 k2 k3
  simp only [← lays_append] at k1 k2 k3
  exact hK _ _ (rep_put (s' := σ.lays (outO s outs own ++ (adO s.ob (dst.getD 0) res).2)) (by rw [lays_dk]; exact h1) h2 k1 (fun t => by rw [lays_slot]; exact k2 _ _ (h4 t)) dst hd _ v k3)
end
end Go.Proofs.Ytpmbdppppnbmnaa
