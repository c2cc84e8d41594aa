/- What the claim leans on, text Zk: Run, Aut. No condition beyond what each lemma states. -/
import Derived.Test.YtabkpoklihkifaaDoorZc
import Derived.LoopN

/- A region reckoned as a whole. Over any program. -/
namespace Go.Proofs.YtabkpoklihkifaaDoor
open Go Go.RowKit
set_option linter.unusedVariables false
set_option linter.unusedSimpArgs false

/-! Values that are known where a guard holds. -/
def unI : D → D
  | .iff _ d => d
  | d => d
def ifgL (s : St) : List Nat → Prop
  | [] => True
  | t :: r => (∀ c d, s.slot t = .iff c d → c = true) ∧ ifgL s r
def unS (s : St) : St := ⟨s.sl.map (fun p => (p.1, unI p.2)), s.hp, s.dk⟩
theorem look_un : ∀ (l : List (Nat × D)) (t : Nat), look .bot (l.map (fun p => (p.1, unI p.2))) t = unI (look .bot l t)
  | [], t => rfl
  | (k, v) :: r, t => by
    simp only [List.map_cons, look]
    split
    · rfl
    · exact look_un r t
theorem unS_slot (s : St) (t : Nat) : (unS s).slot t = unI (s.slot t) := look_un _ _
theorem ifgL_get {s : St} : ∀ {ts : List Nat}, ifgL s ts → ∀ t ∈ ts, ∀ c d, s.slot t = .iff c d → c = true
  | [], _, t, h => by cases h
  | u :: r, h, t, ht => by
    rcases List.mem_cons.1 ht with rfl | ht
    · exact h.1
    · exact ifgL_get h.2 t ht
def mixS (T : List Nat) (σ : St) : St := ⟨T.map (fun t => (t, unI (σ.slot t))) ++ σ.sl, σ.hp, σ.dk⟩
theorem look_mix (f : Nat → D) (l : List (Nat × D)) : ∀ (T : List Nat) (t : Nat), look .bot (T.map (fun t => (t, f t)) ++ l) t = if t ∈ T then f t else look .bot l t
  | [], t => by simp
  | u :: T, t => by
    simp only [List.map_cons, List.cons_append, look, look_mix f l T t, List.mem_cons]
    by_cases h : u = t
    · subst h; simp
    · have h' : t ≠ u := fun e => h e.symm
      simp [h, h']
theorem mixS_slot (T : List Nat) (σ : St) (t : Nat) : (mixS T σ).slot t = if t ∈ T then unI (σ.slot t) else σ.slot t := look_mix _ _ T t
section
variable {C : Ctx} {s σ : St} {ops : Array Oper} {o : Oper} {d : D} {obs : List (Nat × Ob)} {R : List Nat} {a : Act} {w : World}
theorem rv_unI {S : Nat → Prop} {ρ : Nat → Pl} {H : Nat → Sh} {d : D} {v : Value} (h : RV w S ρ H d v []) (hc : ∀ c d', d = .iff c d' → c = true) : RV w S ρ H (unI d) v [] := by
  cases d with
  | iff c d' =>
    obtain rfl := hc c d' rfl
    cases h with
    | iff _ _ _ h h0 => exact h rfl
  | _ => exact h
theorem rv_reI {S : Nat → Prop} {ρ : Nat → Pl} {H : Nat → Sh} {d : D} {v : Value} (h : RV w S ρ H (unI d) v []) (hc : ∀ c d', d = .iff c d' → c = true) : RV w S ρ H d v [] := by
  cases d with
  | iff c d' =>
    obtain rfl := hc c d' rfl
    exact .iff _ _ _ (fun _ => h) (fun e => by cases e)
  | _ => exact h
theorem eff_unI (h : Eff C o (unS s) d [] (opsT o.op) R) (hc : ifgL s (opsT o.op)) : Eff C o s d [] (opsT o.op) R := by
  intro σ hT hR K Q a w hrep hK
  have hcσ : ∀ t ∈ opsT o.op, ∀ c d', σ.slot t = .iff c d' → c = true := fun t ht c d' e => ifgL_get hc t ht c d' (by rw [← hT t ht]; exact e)
  obtain ⟨h1, h2, ρ, S, Φ, h3, h4⟩ := hrep
  have hrep' : Rep C (mixS (opsT o.op) σ) a w := ⟨h1, h2, ρ, S, Φ, h3.congr (fun _ => rfl) rfl, fun t => by
    rw [mixS_slot]
    show RV w S ρ σ.sh _ _ _
    split
    · rename_i ht; exact rv_unI (h4 t) (hcσ t ht)
    · exact h4 t⟩
  refine h (mixS (opsT o.op) σ) (fun t ht => by rw [mixS_slot, if_pos ht, unS_slot, hT t ht]) hR K Q a w hrep' (fun a' w' hr => hK a' w' ?_)
  obtain ⟨q1, q2, ρ', S', Φ', q3, q4⟩ := hr
  have e1 : ∀ x, (((mixS (opsT o.op) σ).lays []).puto o.dst d).ob x = ((σ.lays []).puto o.dst d).ob x := fun x => by cases o.dst <;> rfl
  have e2 : (((mixS (opsT o.op) σ).lays []).puto o.dst d).sh = ((σ.lays []).puto o.dst d).sh := by cases o.dst <;> rfl
  have e3 : (((mixS (opsT o.op) σ).lays []).puto o.dst d).dk = ((σ.lays []).puto o.dst d).dk := by cases o.dst <;> rfl
  refine ⟨by rw [← e3]; exact q1, q2, ρ', S', Φ', q3.congr (fun x => (e1 x).symm) e3.symm, fun t => ?_⟩
  have := q4 t
  rw [e2] at this
  have key : ∀ t, RV w' S' ρ' ((σ.lays []).puto o.dst d).sh ((mixS (opsT o.op) σ).slot t) (a'.tmps.getD t undef) [] → RV w' S' ρ' ((σ.lays []).puto o.dst d).sh (σ.slot t) (a'.tmps.getD t undef) [] := fun t h => by
    rw [mixS_slot] at h
    split at h
    · rename_i ht; exact rv_reI h (hcσ t ht)
    · exact h
  rcases hdst : o.dst with _ | x
  · rw [hdst] at this key
    exact key t this
  · rw [hdst] at this key
    have this' : RV w' S' ρ' ((σ.lays []).puto (some x) d).sh (((mixS (opsT o.op) σ).put x d).slot t) (a'.tmps.getD t undef) [] := this
    show RV w' S' ρ' ((σ.lays []).puto (some x) d).sh ((σ.put x d).slot t) (a'.tmps.getD t undef) []
    rw [St.slot_put] at this' ⊢
    split
    · rename_i hx; rw [if_pos hx] at this'; exact this'
    · rename_i hx; rw [if_neg hx] at this'; exact key t this'

/-! Guards. -/
inductive GC where
  | yes
  | on (c : Bool)
  | no
  | bad
def gcB (want b : Bool) : Bool :=
  match want with
  | true => b
  | false => !b
def gcO (ops : Array Oper) (s : St) : Option (Nat × Bool) → GC
  | none => .yes
  | some (gi, want) =>
    match gsl ops gi with
    | some u =>
      match frc (s.slot u) with
      | some (.bool b) => .on (gcB want b)
      | some (.iff c (.bool b)) => .on (c && gcB want b)
      | some (.tup []) => .no
      | _ => .bad
    | none => .bad
theorem gcB_iff (want b : Bool) : gcB want b = true ↔ b = want := by cases want <;> cases b <;> simp [gcB]
theorem wanted_on (h : Rep C σ a w) (hs : ∀ t ∈ tOf ops o, σ.slot t = s.slot t) {c : Bool} (hc : gcO ops s o.guard = .on c) : (Region.wanted o (yielded ops a.tmps) = true ↔ c = true) := by
  unfold gcO at hc
  split at hc
  · cases hc
  · rename_i gi want hgd
    split at hc
    · rename_i u hu
      have hσ : σ.slot u = s.slot u := hs u (by simp [tOf, hgd, hu])
      rw [frc_eq] at hc
      split at hc
      · rename_i b hb
        injection hc with hc
        subst hc
        injection hb with hb
        have hy := yield_of h hu (b := b) (by rw [hσ]; exact hb)
        rw [gcB_iff]
        simp [Region.wanted, hgd, hy]
      · rename_i c' b hb
        injection hc with hc
        subst hc
        injection hb with hb
        obtain ⟨_, _, ρ, S, Φ, h3, h4⟩ := h
        have h5 := h4 u
        rw [hσ, hb] at h5
        have : c' = true ∨ c' = false := by cases c' <;> simp
        rcases this with rfl | rfl
        · have h6 : a.tmps.getD u undef = .bool b := by
            generalize a.tmps.getD u undef = v at h5
            cases h5 with
            | iff _ _ _ h h0 => exact inv_bool (h rfl)
          have hy : yielded ops a.tmps gi = some b := by
            unfold yielded
            unfold gsl at hu
            rw [hu]
            have h3 : a.tmps[u]? = some (.bool b) := by
              rw [Array.getD_eq_getD_getElem?] at h6
              rcases hx : a.tmps[u]? with _ | v
              · rw [hx] at h6; cases h6
              · rw [hx] at h6; rw [show v = .bool b from h6]
            simp [h3]
          simp [Region.wanted, hgd, hy, gcB_iff]
        · have h6 : a.tmps.getD u undef = undef := by
            generalize a.tmps.getD u undef = v at h5
            cases h5 with
            | iff _ _ _ h h0 => exact h0 rfl
          have hy : yielded ops a.tmps gi = none := by
            unfold yielded
            unfold gsl at hu
            rw [hu]
            rw [Array.getD_eq_getD_getElem?] at h6
            rcases hx : a.tmps[u]? with _ | v
            · simp [hx]
            · rw [hx] at h6
              have : v = undef := h6
              subst this
              simp [hx, undef]
          simp [Region.wanted, hgd, hy]
      · cases hc
      · cases hc
    · cases hc
theorem effG_on {c : Bool} (hc : gcO ops s o.guard = .on c) (hd : dstOk C.n o.dst) (h : c = true → Eff C o s d [] (opsT o.op) R) : EffG C ops o s (.iff c d) [] R := by
  intro σ hT hR K Q a w hrep hK
  have hw := wanted_on hrep hT hc
  have hT' : ∀ t ∈ opsT o.op, σ.slot t = s.slot t := fun t ht => hT t (List.mem_append_left _ ht)
  by_cases hcc : c = true
  · rw [if_pos (hw.2 hcc)]
    refine h hcc σ hT' hR K Q a w hrep (fun a' w' hr => hK a' w' ?_)
    obtain ⟨q1, q2, ρ, S, Φ, q3, q4⟩ := hr
    have e1 : ∀ d : D, ((σ.lays []).puto o.dst d).sh = σ.sh := fun d => by cases o.dst <;> rfl
    have e2 : ∀ d : D, ((σ.lays []).puto o.dst d).dk = σ.dk := fun d => by cases o.dst <;> rfl
    have e3 : ∀ (d : D) x, ((σ.lays []).puto o.dst d).ob x = σ.ob x := fun d x => by cases o.dst <;> rfl
    refine ⟨by rw [e2] at q1 ⊢; exact q1, q2, ρ, S, Φ, q3.congr (fun x => by rw [e3, e3]) (by rw [e2, e2]), fun t' => ?_⟩
    have := q4 t'
    rw [e1] at this ⊢
    rcases hdst : o.dst with _ | x
    · rw [hdst] at this; exact this
    · rw [hdst] at this
      show RV w' S ρ σ.sh ((σ.put x _).slot t') _ []
      have this' : RV w' S ρ σ.sh ((σ.put x d).slot t') (a'.tmps.getD t' undef) [] := this
      rw [St.slot_put] at this' ⊢
      split
      · rename_i hx; rw [if_pos hx] at this'; exact .iff _ _ _ (fun _ => this') (fun e => by rw [hcc] at e; cases e)
      · rename_i hx; rw [if_neg hx] at this'; exact this'
  · rw [if_neg (fun h => hcc (hw.1 h))]
    exact hK _ _ (rep_undef hrep _ hd _ fun _ _ _ => .iff _ _ _ (fun e => absurd e hcc) (fun _ => rfl))
/-- A guard that holds opens the operation. -/
theorem effG_onT {c : Bool} (hc : gcO ops s o.guard = .on c) (hcc : c = true) (h : Eff C o s d obs (opsT o.op) R) : EffG C ops o s d obs R := by
  intro σ hT hR K Q a w hrep hK
  have hw := wanted_on hrep hT hc
  have hT' : ∀ t ∈ opsT o.op, σ.slot t = s.slot t := fun t ht => hT t (List.mem_append_left _ ht)
  rw [if_pos (hw.2 hcc)]
  exact h σ hT' hR K Q a w hrep hK
theorem effG_onF {c : Bool} (hc : gcO ops s o.guard = .on c) (hcc : c = false) (hd : dstOk C.n o.dst) : EffG C ops o s (.tup []) [] [] := by
  intro σ hT hR K Q a w hrep hK
  have hw := wanted_on hrep hT hc
  rw [if_neg (fun h => by have := hw.1 h; rw [hcc] at this; cases this)]
  exact hK _ _ (rep_undef hrep _ hd _ fun _ _ _ => rv_undef)
theorem effG_no' (hc : gcO ops s o.guard = .no) (hd : dstOk C.n o.dst) : EffG C ops o s (.tup []) [] [] := by
  unfold gcO at hc
  split at hc
  · cases hc
  · rename_i gi want hgd
    split at hc
    · rename_i u hu
      rw [frc_eq] at hc
      split at hc <;> first | (cases hc; done) | skip
      rename_i hb
      injection hb with hb
      exact effG_nu hgd hu hb hd
    · cases hc
theorem effG_yes (hc : gcO ops s o.guard = .yes) (h : Eff C o s d obs (opsT o.op) R) : EffG C ops o s d obs R := by
  refine effG_of h ?_
  unfold gcO at hc
  unfold gok
  split at hc
  · rename_i hgd; rw [hgd]; trivial
  · split at hc
    · split at hc <;> cases hc
    · cases hc
end

/-! One operation with its guard. -/
def isPick : Op → Bool
  | .pick _ _ _ => true
  | _ => false
def isCall : Op → Bool
  | .call { callee := .builtin _, args := _, argTypes := _ } => false
  | .call _ => true
  | _ => false
def stOk : Op → Option Nat → Bool
  | .store _ _ _, some _ => false
  | _, _ => true
def ifgP (s : St) : List Nat → Prop → Prop
  | [], p => p
  | t :: r, p =>
    match frc (s.slot t) with
    | some (.iff c _) => c = true ∧ ifgP s r p
    | _ => ifgP s r p
def ifgK {α : Type} (s : St) : List Nat → Prop → (Prop → α) → α
  | [], p, k => k p
  | t :: r, p, k =>
    match frc (s.slot t) with
    | some (.iff c _) => ifgK s r p (fun q => k (c = true ∧ q))
    | _ => ifgK s r p k
theorem ifgK_eq {α : Type} (s : St) (p : Prop) : ∀ (ts : List Nat) (k : Prop → α), ifgK s ts p k = k (ifgP s ts p)
  | [], k => rfl
  | t :: r, k => by
    simp only [ifgK, ifgP, frc_eq]
    split <;> exact ifgK_eq s p r _
theorem ifgP_ok {s : St} {p : Prop} : ∀ {ts : List Nat}, ifgP s ts p → ifgL s ts ∧ p
  | [], h => ⟨trivial, h⟩
  | t :: r, h => by
    simp only [ifgP, frc_eq] at h
    split at h
    · rename_i c d e
      injection e with e
      obtain ⟨h1, h2⟩ := ifgP_ok h.2
      exact ⟨⟨fun c' d' e' => by rw [e] at e'; injection e' with e1 e2; subst e1; exact h.1, h1⟩, h2⟩
    · rename_i hne
      obtain ⟨h1, h2⟩ := ifgP_ok h
      exact ⟨⟨fun c' d' e' => absurd (congrArg some e') (hne c' d'), h1⟩, h2⟩
def stepD (Ti : Nat → TI) (G : Nat → Option D) (ops : Array Oper) (s : St) (dst : Option Nat) (op : Op) (gd : Option (Nat × Bool)) : OpR :=
  match gcO ops s gd with
  | .yes => opD Ti G s dst op
  | .on c =>
    match isPick op with
    | true => match opD Ti G s dst op with
      | some (g, d, [], R) => some ((c = true → g), .iff c d, [], R)
      | _ => none
    | false => match opD Ti G (unS s) dst op with
      | some (g, d, [], R) => match frc d with
        | some d => ifgK s (opsT op) g fun g => some ((c = true → g), .iff c d, [], R)
        | none => none
      | some (_, _, _ :: _, _) => none
      | none => some (c = false, .iff c .bot, [], [])
  | .no => some (True, .tup [], [], [])
  | .bad => none
theorem stepD_ok {C : Ctx} {ops : Array Oper} {s : St} {dst : Option Nat} {op : Op} {ty : TypeId} {pos : String} {after : Array Edge} {gd : Option (Nat × Bool)} (hd : dstOk C.n dst) (hst : stOk op dst = true) {g : Prop} {d : D} {obs : List (Nat × Ob)} {R : List Nat}
    (e : stepD (tiOf C.P) C.G ops s dst op gd = some (g, d, obs, R)) (hg : g) : EffG C ops ⟨dst, op, ty, pos, after, gd⟩ s d obs R := by
  have hs : ∀ T x y, op = .store T x y → dst = none := fun T x y h => by
    subst h
    cases dst with
    | none => rfl
    | some t => cases hst
  unfold stepD at e
  split at e
  · rename_i hc
    exact effG_yes (o := ⟨dst, op, ty, pos, after, gd⟩) hc (opD_ok hd e hg hs)
  · rename_i c hc
    split at e
    · split at e
      · rename_i g' d' R' he
        obtain ⟨rfl, rfl, rfl, rfl⟩ := optS_inj e
        exact effG_on (o := ⟨dst, op, ty, pos, after, gd⟩) hc hd (fun h => opD_ok hd he (hg h) hs)
      · cases e
    · split at e
      · rename_i g' d' R' he
        rw [frc_eq] at e
        simp only [ifgK_eq] at e
        obtain ⟨rfl, rfl, rfl, rfl⟩ := optS_inj e
        exact effG_on (o := ⟨dst, op, ty, pos, after, gd⟩) hc hd (fun h => by
          obtain ⟨h1, h2⟩ := ifgP_ok (hg h)
          exact eff_unI (o := ⟨dst, op, ty, pos, after, gd⟩) (opD_ok hd he h2 hs) h1)
      · cases e
      · obtain ⟨rfl, rfl, rfl, rfl⟩ := optS_inj e
        exact effG_on (o := ⟨dst, op, ty, pos, after, gd⟩) hc hd (fun h => by rw [hg] at h; cases h)
  · rename_i hc
    obtain ⟨rfl, rfl, rfl, rfl⟩ := optS_inj e
    exact effG_no' (o := ⟨dst, op, ty, pos, after, gd⟩) hc hd
  · cases e

/-! Many operations. -/
abbrev Acc := List (List Nat × List Nat)
def layK {α : Type} : List (Nat × Ob) → List (Nat × Ob) → (List (Nat × Ob) → α) → α
  | [], hp, k => k hp
  | (o, b) :: r, hp, k => layK r ((o, b) :: hp) k
theorem layK_eq {α : Type} : ∀ (obs hp : List (Nat × Ob)) (k : List (Nat × Ob) → α), layK obs hp k = k (obs.reverse ++ hp)
  | [], hp, k => rfl
  | (o, b) :: r, hp, k => by simp [layK, layK_eq r]
def nmK {α : Type} : List (Nat × Ob) → (List Nat → α) → α
  | [], k => k []
  | (o, _) :: r, k => nmK r fun l => k (o :: l)
theorem nmK_eq {α : Type} : ∀ (obs : List (Nat × Ob)) (k : List Nat → α), nmK obs k = k (obs.map (·.1))
  | [], k => rfl
  | (o, b) :: r, k => by simp [nmK, nmK_eq r]
def putK {α : Type} (s : St) (dst : Option Nat) (d : D) (obs : List (Nat × Ob)) (k : St → List Nat → α) : α :=
  match s with
  | ⟨sl, hp, dk⟩ => nmK obs fun nm => layK obs hp fun hp => match dst with
    | some t => k ⟨(t, d) :: sl, hp, dk⟩ nm
    | none => k ⟨sl, hp, dk⟩ nm
theorem lays_eq : ∀ (obs : List (Nat × Ob)) (s : St), s.lays obs = ⟨s.sl, obs.reverse ++ s.hp, s.dk⟩
  | [], s => rfl
  | (o, b) :: r, s => by
    show (s.lay o b).lays r = _
    rw [lays_eq r]
    simp [St.lay]
theorem putK_eq {α : Type} (s : St) (dst : Option Nat) (d : D) (obs : List (Nat × Ob)) (k : St → List Nat → α) : putK s dst d obs k = k ((s.lays obs).puto dst d) (obs.map (·.1)) := by
  obtain ⟨sl, hp, dk⟩ := s
  simp only [putK, layK_eq, nmK_eq, lays_eq]
  cases dst <;> rfl
def dstB (n : Nat) : Option Nat → Bool
  | some t => Nat.blt t n
  | none => true
def runD (Ti : Nat → TI) (G : Nat → Option D) (ops : Array Oper) (nt : Nat) : Nat → Acc → List Oper → St → Option (Prop × Acc × List Oper × St)
  | 0, acc, rest, s => some (True, acc, rest, s)
  | _ + 1, acc, [], s => some (True, acc, [], s)
  | n + 1, acc, ⟨dst, op, ty, pos, after, gd⟩ :: rest, s =>
    match isCall op with
    | true => some (True, acc, ⟨dst, op, ty, pos, after, gd⟩ :: rest, s)
    | false =>
      match dstB nt dst && stOk op dst with
      | false => none
      | true =>
        match stepD Ti G ops s dst op gd with
        | none => none
        | some (g, d, obs, R) =>
          match frc d with
          | none => none
          | some d => putK s dst d obs fun s' nm =>
            match runD Ti G ops nt n ((nm, R) :: acc) rest s' with
            | none => none
            | some (gs, acc', rest', s'') => some (g ∧ gs, acc', rest', s'')
/-- From the state s, the operations that are left end in a state of which K says so. -/
def RG (C : Ctx) (ops : Array Oper) (W : St → St → Prop) (acc : Acc) (rest : List Oper) (s : St) (K : Acc → St → Prop) : Prop :=
  ∀ M, Stp C ops M → (∀ acc rest s s', W s s' → M acc rest s' → M acc rest s) → (∀ acc s', K acc s' → M acc [] s') → M acc rest s
section
variable {C : Ctx} {Ti : Nat → TI} {G : Nat → Option D} {n : Nat} {ops : Array Oper} {acc acc' : Acc} {rest rest' : List Oper} {s s1 s2 : St} {K : Acc → St → Prop} {W : St → St → Prop} {Gs : Prop} {Q : Exit → St → Prop}
theorem dstB_ok (hE : Env C Ti G n) {dst : Option Nat} (h : dstB n dst = true) : dstOk C.n dst := by
  cases dst with
  | none => exact dstOk_none
  | some t => exact env_lt hE h
theorem rn' (hE : Env C Ti G n) : ∀ (k : Nat) {acc acc' : Acc} {rest rest' : List Oper} {s s1 : St} {Gs : Prop}, runD Ti G ops n k acc rest s = some (Gs, acc', rest', s1) → Gs → (RG C ops W acc' rest' s1 K) → RG C ops W acc rest s K
  | 0, acc, acc', rest, rest', s, s1, Gs, e, hg, hk => by
    injection e with e; injection e with e1 e2; injection e2 with e2 e3; injection e3 with e3 e4
    subst e2; subst e3; subst e4; exact hk
  | k + 1, acc, acc', [], rest', s, s1, Gs, e, hg, hk => by
    injection e with e; injection e with e1 e2; injection e2 with e2 e3; injection e3 with e3 e4
    subst e2; subst e3; subst e4; exact hk
  | k + 1, acc, acc', ⟨dst, op, ty, pos, after, gd⟩ :: rest, rest', s, s1, Gs, e, hg, hk => by
    simp only [runD, frc_eq, putK_eq] at e
    split at e
    · injection e with e; injection e with e1 e2; injection e2 with e2 e3; injection e3 with e3 e4
      subst e2; subst e3; subst e4; exact hk
    · split at e
      · cases e
      · rename_i hb
        rw [Bool.and_eq_true] at hb
        split at e
        · cases e
        · rename_i g d obs R he
          split at e
          · cases e
          · rename_i gs acc'' rest'' s'' hr
            injection e with e; injection e with e1 e2; injection e2 with e2 e3; injection e3 with e3 e4
            subst e1; subst e2; subst e3; subst e4
            intro M hM hW hend
            rw [← hE.ti, ← hE.g] at he
            exact hM.step _ _ _ _ d obs R (stepD_ok (ty := ty) (pos := pos) (after := after) (dstB_ok hE hb.1) hb.2 he hg.1) (rn' hE k hr hg.2 hk M hM hW hend)
theorem rn (hE : Env C Ti G n) (k : Nat) (e : runD Ti G ops n k acc rest s = some (Gs, acc', rest', s1)) (hs : s1 = s2) (hg : Gs) (hk : RG C ops W acc' rest' s2 K) : RG C ops W acc rest s K := by
  subst hs; exact rn' hE k e hg hk
theorem rg_nil (h : K acc s) : RG C ops W acc [] s K := fun M hM hW hend => hend acc s h
theorem rg_w (h : W s s1) (hk : RG C ops W acc rest s1 K) : RG C ops W acc rest s K := fun M hM hW hend => hW _ _ _ _ h (hk M hM hW hend)

/-! Code. -/
def sq (C : Ctx) (y : Code) (Q : Exit → St → Prop) : Exit → St → Prop
  | .normal, s => VC C y s Q
  | e, s => Q e s
theorem vs {x y : Code} (h : VC C x s (sq C y Q)) : VC C (.seq x y) s Q := by
  refine vc_seq fun K hK => h.mono fun e s' h' => ?_
  cases e <;> first | exact hK _ h' | exact h'
theorem sq_n {y : Code} (h : VC C y s Q) : sq C y Q .normal s := h
theorem sq_r {y : Code} (h : Q .ret s) : sq C y Q .ret s := h
theorem sq_e {y : Code} {id : Nat} (h : Q (.exit id) s) : sq C y Q (.exit id) s := h
/-- A region without calls. -/
theorem vr {id : Nat} (hnd : noDefer ops = true) (hE : Env C Ti G n) (k : Nat) (e : runD Ti G ops n k [] ops.toList s = some (Gs, acc', [], s1)) (hs : s1 = s2) (hg : Gs) (hk : Q .normal s2) : VC C (.region id ops false) s Q := by
  subst hs
  exact vc_region hnd fun M hM hW hend => rn' (W := Wk C) (K := fun _ s' => Q .normal s') hE k e hg (rg_nil hk) M hM hW hend
theorem vrD {id : Nat} (hnd : noDefer ops = true) (hE : Env C Ti G n) (hm : C.P.follows .mixedOrders = true) (k : Nat) (e : runD Ti G ops n k [] ops.toList s = some (Gs, acc', [], s1)) (hc : chk ops acc' = true) (hs : s1 = s2) (hg : Gs) (hk : Q .normal s2) : VC C (.region id ops true) s Q := by
  subst hs
  exact vc_regionD hm hnd fun M hM hend => rn' (W := Eq) (K := fun acc s' => chk ops acc = true ∧ Q .normal s') hE k e hg (rg_nil ⟨hc, hk⟩) M hM (fun _ _ _ _ e h => e ▸ h) (fun acc s' h => hend acc s' h.1 h.2)
/-- A region is opened. -/
theorem vo {id : Nat} (hnd : noDefer ops = true) (h : RG C ops (Wk C) [] ops.toList s (fun _ s' => Q .normal s')) : VC C (.region id ops false) s Q :=
  vc_region hnd fun M hM hW hend => h M hM hW hend
theorem voD {id : Nat} (hnd : noDefer ops = true) (hm : C.P.follows .mixedOrders = true) (h : RG C ops Eq [] ops.toList s (fun acc s' => chk ops acc = true ∧ Q .normal s')) : VC C (.region id ops true) s Q :=
  vc_regionD hm hnd fun M hM hend => h M hM (fun _ _ _ _ e h => e ▸ h) (fun acc s' h => hend acc s' h.1 h.2)
theorem rz (h : Q .normal s) : RG C ops W acc [] s (fun _ s' => Q .normal s') := rg_nil h
theorem rzD (hc : chk ops acc = true) (h : Q .normal s) : RG C ops W acc [] s (fun acc s' => chk ops acc = true ∧ Q .normal s') := rg_nil ⟨hc, h⟩
/-! Blocks. -/
theorem vb {id : Nat} {c : Code} (h : VC C c s (inS id Q)) : VC C (.block id c) s Q := vc_block h
theorem in_n {id : Nat} (h : Q .normal s) : inS id Q .normal s := h
theorem in_r {id : Nat} (h : Q .ret s) : inS id Q .ret s := h
theorem in_e {id : Nat} (h : Q .normal s) : inS id Q (.exit id) s := by show if id = id then _ else _; rw [if_pos rfl]; exact h
theorem in_x {id id' : Nat} (hne : Nat.beq id' id = false) (h : Q (.exit id') s) : inS id Q (.exit id') s := by
  show if id' = id then _ else _
  rw [if_neg (fun e => by subst e; simp at hne)]
  exact h
/-! Loops. -/
def lq {α : Type} (C : Ctx) (I : α → St) (J : α → Prop) (μ : α → Nat) (x : α) (Q : Exit → St → Prop) : Exit → St → Prop
  | .normal, s => ∃ x', Wk C s (I x') ∧ J x' ∧ μ x' < μ x
  | e, s => Q e s
theorem vl {α : Type} {c : Code} (I : α → St) (J : α → Prop) (μ : α → Nat) (x0 : α) (h0 : Wk C s (I x0)) (hj : J x0) (round : ∀ x, J x → VC C c (I x) (lq C I J μ x Q)) : VC C (.loop c) s Q :=
  vc_loop I J μ x0 h0 hj fun x hx K hK => (round x hx).mono fun e s' h => by
    cases e <;> first | (obtain ⟨x', h1, h2, h3⟩ := h; exact hK _ x' h1 h2 h3) | exact h
theorem lq_n {α : Type} {I : α → St} {J : α → Prop} {μ : α → Nat} {x : α} (x' : α) (hw : Wk C s (I x')) (hj : J x') (hm : μ x' < μ x) : lq C I J μ x Q .normal s := ⟨x', hw, hj, hm⟩
theorem lq_r {α : Type} {I : α → St} {J : α → Prop} {μ : α → Nat} {x : α} (h : Q .ret s) : lq C I J μ x Q .ret s := h
theorem lq_e {α : Type} {I : α → St} {J : α → Prop} {μ : α → Nat} {x : α} {id : Nat} (h : Q (.exit id) s) : lq C I J μ x Q (.exit id) s := h
/-- A loop, some of its rounds walked one by one. -/
def VCn (C : Ctx) (c : Code) (k : Nat) (s : St) (Q : Exit → St → Prop) : Prop := ∀ m a w, Rep C s a w → Code.roundsIn (fen C.rnd) m C.P c (fun e a' w' => ∃ s', Rep C s' a' w' ∧ Q e s') k a w
def nq (C : Ctx) (c : Code) (k : Nat) (Q : Exit → St → Prop) : Exit → St → Prop
  | .normal, s => VCn C c k s Q
  | e, s => Q e s
theorem vn {c : Code} (k : Nat) (h : VCn C c k s Q) : VC C (.loop c) s Q := fun m a w hr => wpIn_loop_rounds k (h m a w hr)
theorem vn_s {c : Code} {k : Nat} (h : VC C c s (nq C c k Q)) : VCn C c (k + 1) s Q := fun m a w hr => by
  rw [roundsIn_succ]
  refine wpIn_mono (h m a w hr) ?_
  rintro e a' w' ⟨s', h1, h2⟩
  cases e <;> first | exact h2 _ _ _ h1 | exact ⟨s', h1, h2⟩
theorem nq_n {c : Code} {k : Nat} (h : VCn C c k s Q) : nq C c k Q .normal s := h
theorem nq_r {c : Code} {k : Nat} (h : Q .ret s) : nq C c k Q .ret s := h
theorem nq_e {c : Code} {k : Nat} {id : Nat} (h : Q (.exit id) s) : nq C c k Q (.exit id) s := h
/-! Where roads meet. -/
def jq {α : Type} (C : Ctx) (I : α → St) (J : α → Prop) (Q : Exit → St → Prop) : Exit → St → Prop
  | .normal, s => ∃ x', Wk C s (I x') ∧ J x'
  | e, s => Q e s
theorem vj {α : Type} {x y : Code} (I : α → St) (J : α → Prop) (hx : VC C x s (jq C I J Q)) (hy : ∀ a, J a → VC C y (I a) Q) : VC C (.seq x y) s Q := by
  refine vc_seq fun K hK => hx.mono fun e s' h' => ?_
  cases e <;> first | (obtain ⟨x', h1, h2⟩ := h'; exact hK _ ((hy x' h2).weak h1)) | exact h'
theorem jq_n {α : Type} {I : α → St} {J : α → Prop} (x' : α) (hw : Wk C s (I x')) (hj : J x') : jq C I J Q .normal s := ⟨x', hw, hj⟩
theorem jq_r {α : Type} {I : α → St} {J : α → Prop} (h : Q .ret s) : jq C I J Q .ret s := h
theorem jq_e {α : Type} {I : α → St} {J : α → Prop} {id : Nat} (h : Q (.exit id) s) : jq C I J Q (.exit id) s := h
/-! Ifs. -/
theorem vc {x y : Code} (hE : Env C Ti G n) {o : Operand} {b : Bool} (hc : frc (evg G s o) = some (.bool b)) (ht : b = true → VC C x s Q) (hf : b = false → VC C y s Q) : VC C (.cond o x y) s Q := vc_cond hE hc ht hf
theorem vT {x y : Code} (hE : Env C Ti G n) {o : Operand} {b : Bool} (hc : frc (evg G s o) = some (.bool b)) (hb : b = true) (ht : VC C x s Q) : VC C (.cond o x y) s Q := vc_true hE hc hb ht
theorem vF {x y : Code} (hE : Env C Ti G n) {o : Operand} {b : Bool} (hc : frc (evg G s o) = some (.bool b)) (hb : b = false) (hf : VC C y s Q) : VC C (.cond o x y) s Q := vc_false hE hc hb hf
/-- Operations under a guard that is decided. -/
theorem rT {c : Bool} {dst : Option Nat} {op : Op} {ty : TypeId} {pos : String} {after : Array Edge} {gd : Option (Nat × Bool)} {g : Prop} {d d1 : D} {obs : List (Nat × Ob)} {R : List Nat} (hE : Env C Ti G n) (hc : gcO ops s gd = .on c) (hcc : c = true) (hb : (dstB n dst && stOk op dst) = true) (e : opD Ti G s dst op = some (g, d, obs, R)) (hd : d = d1) (hg : g)
    (hs : (s.lays obs).puto dst d1 = s2) (hk : RG C ops W ((obs.map (·.1), R) :: acc) rest s2 K) : RG C ops W acc (⟨dst, op, ty, pos, after, gd⟩ :: rest) s K := by
  subst hs; subst hd
  rw [Bool.and_eq_true] at hb
  intro M hM hW hend
  rw [← hE.ti, ← hE.g] at e
  have hst : ∀ T x y, op = .store T x y → dst = none := fun T x y h => by
    subst h
    cases dst with
    | none => rfl
    | some t => cases hb.2
  exact hM.step _ _ _ _ d obs R (effG_onT (o := ⟨dst, op, ty, pos, after, gd⟩) hc hcc (opD_ok (dstB_ok hE hb.1) e hg hst)) (hk M hM hW hend)
theorem rF {c : Bool} {dst : Option Nat} {op : Op} {ty : TypeId} {pos : String} {after : Array Edge} {gd : Option (Nat × Bool)} (hE : Env C Ti G n) (hc : gcO ops s gd = .on c) (hcc : c = false) (hb : dstB n dst = true)
    (hs : s.puto dst (.tup []) = s2) (hk : RG C ops W (([], []) :: acc) rest s2 K) : RG C ops W acc (⟨dst, op, ty, pos, after, gd⟩ :: rest) s K := by
  subst hs
  intro M hM hW hend
  exact hM.step _ _ _ _ (.tup []) [] [] (effG_onF (o := ⟨dst, op, ty, pos, after, gd⟩) hc hcc (dstB_ok hE hb)) (hk M hM hW hend)
/-- One operation, its value given by an equation. -/
theorem r1 {dst : Option Nat} {op : Op} {ty : TypeId} {pos : String} {after : Array Edge} {gd : Option (Nat × Bool)} {g : Prop} {d d1 : D} {obs : List (Nat × Ob)} {R : List Nat} (hE : Env C Ti G n) (hc : gcO ops s gd = .yes) (hb : (dstB n dst && stOk op dst) = true) (e : opD Ti G s dst op = some (g, d, obs, R)) (hd : d = d1) (hg : g)
    (hs : (s.lays obs).puto dst d1 = s2) (hk : RG C ops W ((obs.map (·.1), R) :: acc) rest s2 K) : RG C ops W acc (⟨dst, op, ty, pos, after, gd⟩ :: rest) s K := by
  subst hs; subst hd
  rw [Bool.and_eq_true] at hb
  intro M hM hW hend
  rw [← hE.ti, ← hE.g] at e
  have hst : ∀ T x y, op = .store T x y → dst = none := fun T x y h => by
    subst h
    cases dst with
    | none => rfl
    | some t => cases hb.2
  exact hM.step _ _ _ _ d obs R (effG_yes (o := ⟨dst, op, ty, pos, after, gd⟩) hc (opD_ok (dstB_ok hE hb.1) e hg hst)) (hk M hM hW hend)
/-- A call by a contract. -/
theorem rc {P : Program} (hE : Env C Ti G n) (hP : C.P = P) {dst : Option Tmp} {f : Nat} {args : Array Operand} {ts : Array TypeId} {ty : TypeId} {pos : String} {after : Array Edge} {gd : Option (Nat × Bool)} {ins : List D} {res d1 : D} {outs : Option (List D)} (fc : FC P G f ins res outs) (hok : fnOk P f)
    {own fro : List Nat} (hm : Mat s (.tup (args.toList.map (evg G s))) (.tup ins) own fro) (hnd : own.Nodup) (hdis : ∀ o ∈ own, o ∉ fro)
    (hnr : fro = [] ∨ (res.nr = true ∧ ∀ cs, outs = some cs → cs.all D.nr0 = true)) (had : res.ad = true) (hout : RcvOk s outs own (args.toList.map (evg G s))) (hd : dstB n dst = true) (hgd : gcO ops s gd = .yes)
    {obs : List (Nat × Ob)} (ho : outO s outs own ++ (adO s.ob (dst.getD 0) res).2 = obs) (hd1 : (adO s.ob (dst.getD 0) res).1 = d1) (hs : (s.lays obs).puto dst d1 = s2) {nm : List Nat} (hnm : obs.map (·.1) = nm) {R : List Nat} (hR : own ++ fro ++ (adO s.ob (dst.getD 0) res).2.map (·.1) = R)
    (hk : RG C ops W ((nm, R) :: acc) rest s2 K) : RG C ops W acc (⟨dst, .call { callee := .value (.func f), args := args, argTypes := ts }, ty, pos, after, gd⟩ :: rest) s K := by
  subst hs; subst hd1; subst hR; subst ho; subst hnm
  intro M hM hW hend
  refine hM.step _ _ _ _ _ _ _ (effG_yes (o := ⟨dst, .call { callee := .value (.func f), args := args, argTypes := ts }, ty, pos, after, gd⟩) hgd ((eff_call (P := P) (G := G) (fo := .func f) (xs := args.toList) rfl hok fc hP hE.g (by rw [ev_g, hE.g]; exact hm) hnd hdis hnr had (by rw [ev_g, hE.g]; exact hout) (dstB_ok hE hd)).weak ?_ (fun _ h => h))) (hk M hM hW hend)
  intro z hz
  simp only [opsT, Op.operands, Call.operands, List.mem_flatMap] at hz ⊢
  rcases List.mem_append.1 hz with hz | hz
  · simp [opT] at hz
  · obtain ⟨x, hx, hz⟩ := List.mem_flatMap.1 hz
    exact ⟨x, by simp [hx], hz⟩
/-- A call by a contract, under a guard that is met. -/
theorem rct {P : Program} (hE : Env C Ti G n) (hP : C.P = P) {dst : Option Tmp} {f : Nat} {args : Array Operand} {ts : Array TypeId} {ty : TypeId} {pos : String} {after : Array Edge} {gd : Option (Nat × Bool)} {ins : List D} {res d1 : D} {outs : Option (List D)} (fc : FC P G f ins res outs) (hok : fnOk P f)
    {own fro : List Nat} (hm : Mat s (.tup (args.toList.map (evg G s))) (.tup ins) own fro) (hnd : own.Nodup) (hdis : ∀ o ∈ own, o ∉ fro)
    (hnr : fro = [] ∨ (res.nr = true ∧ ∀ cs, outs = some cs → cs.all D.nr0 = true)) (had : res.ad = true) (hout : RcvOk s outs own (args.toList.map (evg G s))) (hd : dstB n dst = true) {c : Bool} (hgd : gcO ops s gd = .on c) (hcc : c = true)
    {obs : List (Nat × Ob)} (ho : outO s outs own ++ (adO s.ob (dst.getD 0) res).2 = obs) (hd1 : (adO s.ob (dst.getD 0) res).1 = d1) (hs : (s.lays obs).puto dst d1 = s2) {nm : List Nat} (hnm : obs.map (·.1) = nm) {R : List Nat} (hR : own ++ fro ++ (adO s.ob (dst.getD 0) res).2.map (·.1) = R)
    (hk : RG C ops W ((nm, R) :: acc) rest s2 K) : RG C ops W acc (⟨dst, .call { callee := .value (.func f), args := args, argTypes := ts }, ty, pos, after, gd⟩ :: rest) s K := by
  subst hs; subst hd1; subst hR; subst ho; subst hnm
  intro M hM hW hend
  refine hM.step _ _ _ _ _ _ _ (effG_onT (o := ⟨dst, .call { callee := .value (.func f), args := args, argTypes := ts }, ty, pos, after, gd⟩) hgd hcc ((eff_call (P := P) (G := G) (fo := .func f) (xs := args.toList) rfl hok fc hP hE.g (by rw [ev_g, hE.g]; exact hm) hnd hdis hnr had (by rw [ev_g, hE.g]; exact hout) (dstB_ok hE hd)).weak ?_ (fun _ h => h))) (hk M hM hW hend)
  intro z hz
  simp only [opsT, Op.operands, Call.operands, List.mem_flatMap] at hz ⊢
  rcases List.mem_append.1 hz with hz | hz
  · simp [opT] at hz
  · obtain ⟨x, hx, hz⟩ := List.mem_flatMap.1 hz
    exact ⟨x, by simp [hx], hz⟩
/-- A call under a guard: it makes no object. -/
theorem rcg {P : Program} (hE : Env C Ti G n) (hP : C.P = P) {c : Bool} {dst : Option Tmp} {f : Nat} {args : Array Operand} {ts : Array TypeId} {ty : TypeId} {pos : String} {after : Array Edge} {gd : Option (Nat × Bool)} {ins : List D} {res d1 : D} (hgd : gcO ops s gd = .on c) (fc : c = true → FC P G f ins res none) (hok : fnOk P f)
    {fro : List Nat} (hm : Mat (unS s) (.tup (args.toList.map (evg G (unS s)))) (.tup ins) [] fro) (hif : c = true → ifgL s (args.toList.flatMap opT))
    (hnr : fro = [] ∨ res.nr = true) (had : res.ad = true) (hd : dstB n dst = true) (hd1 : adO s.ob (dst.getD 0) res = (d1, []))
    (hs : s.puto dst (.iff c d1) = s2) (hk : RG C ops W (([], fro) :: acc) rest s2 K) : RG C ops W acc (⟨dst, .call { callee := .value (.func f), args := args, argTypes := ts }, ty, pos, after, gd⟩ :: rest) s K := by
  subst hs
  intro M hM hW hend
  have hsub : ∀ z ∈ opT (.func f) ++ args.toList.flatMap opT, z ∈ opsT (.call { callee := .value (.func f), args := args, argTypes := ts }) := fun z hz => by
    simp only [opsT, Op.operands, Call.operands, List.mem_flatMap] at hz ⊢
    rcases List.mem_append.1 hz with hz | hz
    · simp [opT] at hz
    · obtain ⟨x, hx, hz⟩ := List.mem_flatMap.1 hz
      exact ⟨x, by simp [hx], hz⟩
  have hsub' : ∀ z ∈ opsT (.call { callee := .value (.func f), args := args, argTypes := ts }), z ∈ args.toList.flatMap opT := fun z hz => by
    simp only [opsT, Op.operands, Call.operands, List.mem_flatMap] at hz ⊢
    obtain ⟨x, hx, hz⟩ := hz
    simp at hx
    rcases hx with rfl | hx
    · simp [opT] at hz
    · exact ⟨x, by simpa using hx, hz⟩
  refine hM.step _ _ _ _ _ [] fro (effG_on (o := ⟨dst, .call { callee := .value (.func f), args := args, argTypes := ts }, ty, pos, after, gd⟩) hgd (dstB_ok hE hd) fun hc => ?_) (hk M hM hW hend)
  have h0 := eff_call (C := C) (s := unS s) (dst := dst) (ty := ty) (pos := pos) (after := after) (gd := gd) (P := P) (G := G) (fo := .func f) (xs := args.toList) (ts := ts) rfl hok (fc hc) hP hE.g (by rw [ev_g, hE.g]; exact hm) (by simp) (by simp) (hnr.imp id fun h => ⟨h, by simp⟩) had rfl (dstB_ok hE hd)
  have e1 : adO (unS s).ob (dst.getD 0) res = (d1, []) := hd1
  rw [e1] at h0
  have e2 : outO (unS s) none [] = [] := rfl
  rw [e2] at h0
  have h1 : Eff C ⟨dst, .call { callee := .value (.func f), args := args, argTypes := ts }, ty, pos, after, gd⟩ (unS s) d1 [] (opsT (.call { callee := .value (.func f), args := args, argTypes := ts })) fro := h0.weak hsub (by simp)
  refine eff_unI (o := ⟨dst, .call { callee := .value (.func f), args := args, argTypes := ts }, ty, pos, after, gd⟩) h1 ?_
  have key : ∀ {ts ts' : List Nat}, (∀ z ∈ ts', z ∈ ts) → ifgL s ts → ifgL s ts' := fun {ts ts'} hz h => by
    induction ts' with
    | nil => trivial
    | cons t r ih => exact ⟨ifgL_get h t (hz t (by simp)), ih fun z hz' => hz z (by simp [hz'])⟩
  exact key hsub' (hif hc)
end

end Go.Proofs.YtabkpoklihkifaaDoor

/- Rewriting rules in bundles, for walks; how a function is entered and left. Over any program. -/
namespace Go.Proofs.YtabkpoklihkifaaDoor
open Go Go.RowKit
set_option linter.unusedVariables false
set_option linter.unusedSimpArgs false

theorem V1 : (∀ cs, (D.agg cs).cells = cs) ∧ (∀ l, (D.aggb l).cells = l.map D.u8) ∧ (Ob.no = ⟨⟨0, 0, 0⟩, none⟩) ∧
    (∀ off s, addO none off s = off) ∧ (∀ i off s, addO (some i) off s = off + i.toNat * s) ∧
    (∀ n, lenO none none n = n) ∧ (∀ a n, lenO (some a) none n = n - a.toNat) ∧ (∀ b n, lenO none (some b) n = b.toNat) ∧ (∀ a b n, lenO (some a) (some b) n = b.toNat - a.toNat) ∧
    (∀ xs, cutB none none xs = xs) ∧ (∀ a xs, cutB (some a) none xs = xs.drop a.toNat) ∧ (∀ b xs, cutB none (some b) xs = xs.take b.toNat) ∧ (∀ a b xs, cutB (some a) (some b) xs = (xs.take b.toNat).drop a.toNat) ∧
    (∀ f, shO none f = f) ∧ (∀ i f, shO (some i) f = fun a b => f (i.toNat + a) b) ∧
    (∀ n, okB none none n = True) ∧ (∀ a n, okB (some a) none n = (0 ≤ a ∧ a ≤ n)) ∧ (∀ b n, okB none (some b) n = (0 ≤ b ∧ b ≤ n)) ∧ (∀ a b n, okB (some a) (some b) n = (0 ≤ a ∧ a ≤ b ∧ b ≤ n)) ∧
    (∀ l, Cont.len (.bytes l) = l.length) ∧ (∀ l, Cont.len (.cells l) = l.length) ∧
    (∀ l, bytN (.rob l) = l.length) ∧ (∀ o g off len, bytN (.sl o g off len) = len) ∧ (∀ l, bytN (.str l) = l.length) ∧ (bytN .nilS = 0) ∧
    (∀ b, gcB true b = b) ∧ (∀ b, gcB false b = !b) ∧ (∀ b x y, pkB 1 b x y = (b || y)) ∧ (∀ b x y, pkB 2 b x y = (b && x)) ∧ (∀ b x y, pkB 0 b x y = cond b x y) ∧ (∀ y, pkK (.const (.bool true)) y = 1) ∧ (∀ t, pkK (.tmp t) (.const (.bool false)) = 2) :=
  ⟨fun _ => rfl, fun _ => rfl, rfl, fun _ _ => rfl, fun _ _ _ => rfl, fun _ => rfl, fun _ _ => rfl, fun _ _ => rfl, fun _ _ _ => rfl, fun _ => rfl, fun _ _ => rfl, fun _ _ => rfl, fun _ _ _ => rfl, fun _ => rfl, fun _ _ => rfl,
    fun _ => rfl, fun _ _ => rfl, fun _ _ => rfl, fun _ _ _ => rfl, fun _ => rfl, fun _ => rfl, fun _ => rfl, fun _ _ _ _ => rfl, fun _ => rfl, rfl, fun _ => rfl, fun _ => rfl, fun _ _ _ => rfl, fun _ _ _ => rfl, fun _ _ _ => rfl, fun _ => rfl, fun _ => rfl⟩
theorem V2 : (∀ a b : Nat, a ≤ b → min a b = a) ∧ (∀ n : Nat, (n : Int).toNat = n) ∧ (∀ n : Nat, n * 1 = n) ∧ (∀ n : Nat, 0 + n = n) ∧ (∀ n : Nat, n + 0 = n) ∧ (∀ n : Nat, n - 0 = n) ∧ (∀ n : Nat, 0 * n = 0) ∧ (∀ n : Int, 0 + n = n) ∧ (∀ n : Int, n + 0 = n) ∧
    (IntKind.i64.bits = 64) ∧ (IntKind.u64.bits = 64) ∧ (IntKind.u8.bits = 8) ∧ (IntKind.u32.bits = 32) ∧
    ((!true) = false) ∧ ((!false) = true) ∧ (∀ b, (true && b) = b) ∧ (∀ b, (b && true) = b) ∧ (∀ b, (false && b) = false) ∧ (∀ b, (b && false) = false) ∧ (∀ b, (true || b) = true) ∧ (∀ b, (b || true) = true) ∧ (∀ b, (false || b) = b) ∧ (∀ b, (b || false) = b) ∧ (∀ b : Bool, (!!b) = b) ∧
    (∀ x y : D, cond true x y = x) ∧ (∀ x y : D, cond false x y = y) ∧ (decide True = true) ∧ (decide False = false) :=
  ⟨fun _ _ h => Nat.min_eq_left h, fun n => Int.toNat_natCast n, Nat.mul_one, Nat.zero_add, Nat.add_zero, Nat.sub_zero, Nat.zero_mul, Int.zero_add, Int.add_zero, rfl, rfl, rfl, rfl, rfl, rfl, Bool.true_and, Bool.and_true, Bool.false_and, Bool.and_false, Bool.true_or, Bool.or_true, Bool.false_or, Bool.or_false, Bool.not_not, fun _ _ => rfl, fun _ _ => rfl, by decide, by decide⟩
theorem V3 : (∀ l : List UInt8, l.drop 0 = l) ∧ (∀ l : List D, l.drop 0 = l) ∧ (∀ l : List UInt8, l.take l.length = l) ∧ (∀ l : List D, l.take l.length = l) ∧ (∀ (n : Nat) (x : UInt8), (List.replicate n x).length = n) ∧ (∀ (n : Nat) (x : D), (List.replicate n x).length = n) ∧
    (∀ (n : Nat) (l : List UInt8), (l.drop n).length = l.length - n) ∧ (∀ (n : Nat) (l : List UInt8), (l.take n).length = min n l.length) ∧ (∀ a b : List UInt8, (a ++ b).length = a.length + b.length) ∧ (∀ (a : UInt8) (b : List UInt8), (a :: b).length = b.length + 1) ∧ (([] : List UInt8).length = 0) ∧
    (∀ (n : Nat) (l : List D), (l.drop n).length = l.length - n) ∧ (∀ (n : Nat) (l : List D), (l.take n).length = min n l.length) ∧ (∀ a b : List D, (a ++ b).length = a.length + b.length) ∧ (∀ (a : D) (b : List D), (a :: b).length = b.length + 1) ∧ (([] : List D).length = 0) ∧
    (∀ (l : List UInt8) (i : Nat) (x : UInt8), (l.set i x).length = l.length) ∧ (∀ (l : List D) (i : Nat) (x : D), (l.set i x).length = l.length) ∧ (∀ l : List UInt8, (l.map D.u8).length = l.length) ∧
    (∀ (a : D) (l : List D) (x : D), (a :: l).set 0 x = x :: l) ∧ (∀ (a : D) (l : List D) (i : Nat) (x : D), (a :: l).set (i + 1) x = a :: l.set i x) ∧ (∀ (a : UInt8) (l : List UInt8) (x : UInt8), (a :: l).set 0 x = x :: l) ∧ (∀ (a : UInt8) (l : List UInt8) (i : Nat) (x : UInt8), (a :: l).set (i + 1) x = a :: l.set i x) ∧
    (∀ (a : D) (l : List D), (a :: l).getD 0 .bot = a) ∧ (∀ (a : D) (l : List D) (i : Nat), (a :: l).getD (i + 1) .bot = l.getD i .bot) ∧
    (∀ l : List UInt8, [] ++ l = l) ∧ (∀ l : List UInt8, l ++ [] = l) ∧ (∀ (a : UInt8) (l m : List UInt8), (a :: l) ++ m = a :: (l ++ m)) ∧ (∀ l : List D, [] ++ l = l) ∧ (∀ l : List D, l ++ [] = l) ∧ (∀ (a : D) (l m : List D), (a :: l) ++ m = a :: (l ++ m)) ∧
    (∀ (a : D) (l : List D) (n : Nat), (a :: l).take (n + 1) = a :: l.take n) ∧ (∀ (l : List D), l.take 0 = []) ∧ (∀ (a : D) (l : List D) (n : Nat), (a :: l).drop (n + 1) = l.drop n) ∧ (∀ n, ([] : List D).drop n = []) ∧ (∀ n, ([] : List D).take n = []) ∧ (∀ (n : Nat), List.map D.u8 (List.replicate n 0) = List.replicate n (.u8 0)) ∧
    (∀ (k : Bool) (cs : List D), k = true → aggD k cs = .aggb (cs.map D.toU8)) ∧ (∀ (k : Bool) (cs : List D), k = false → aggD k cs = .agg cs) ∧ (∀ l : List UInt8, (l.map D.u8).map D.toU8 = l) :=
  ⟨fun _ => rfl, fun _ => rfl, fun l => List.take_length, fun l => List.take_length, fun _ _ => by simp, fun _ _ => by simp, fun _ _ => by simp, fun _ _ => by simp, fun _ _ => by simp, fun _ _ => by simp, rfl, fun _ _ => by simp, fun _ _ => by simp, fun _ _ => by simp, fun _ _ => by simp, rfl, fun _ _ _ => by simp, fun _ _ _ => by simp, fun _ => by simp,
    fun _ _ _ => rfl, fun _ _ _ _ => rfl, fun _ _ _ => rfl, fun _ _ _ _ => rfl, fun _ _ => rfl, fun _ _ _ => rfl, fun _ => rfl, fun l => List.append_nil l, fun _ _ _ => rfl, fun _ => rfl, fun l => List.append_nil l, fun _ _ _ => rfl, fun _ _ _ => rfl, fun _ => rfl, fun _ _ _ => rfl, fun n => by cases n <;> rfl, fun n => by cases n <;> rfl, fun n => by simp,
    fun k cs h => by subst h; rfl, fun k cs h => by subst h; rfl, map_toU8⟩
theorem V4 : (∀ n, inR .i64 n ↔ -9223372036854775808 ≤ n ∧ n ≤ 9223372036854775807) ∧ (∀ n, inR .u64 n ↔ 0 ≤ n ∧ n ≤ 18446744073709551615) ∧ (∀ p : Prop, (True ∧ p) = p) ∧ (∀ p : Prop, (p ∧ True) = p) :=
  ⟨inR_i64, inR_u64, fun p => by simp, fun p => by simp⟩
theorem VL : (∀ n : Nat, b8 (no_index (OfNat.ofNat n : Int)) = (OfNat.ofNat n : UInt8)) ∧ (∀ n : Nat, w32 (no_index (OfNat.ofNat n : Int)) = (OfNat.ofNat n : UInt32)) := ⟨b8_lit, w32_lit⟩
theorem V5 : (∀ cs, ctOf true cs = .bytes (cs.map D.toU8)) ∧ (∀ cs, ctOf false cs = .cells cs) ∧ (∀ x, (D.u8 x).cells = [.u8 x]) ∧ (∀ x, (D.u32 x).cells = [.u32 x]) ∧ (∀ b, (D.bool b).cells = [.bool b]) ∧ (∀ k n, (D.int k n).cells = [.int k n]) ∧ (∀ l, (D.str l).cells = [.str l]) ∧
    (∀ o g off n, (D.sl o g off n).cells = [.sl o g off n]) ∧ (∀ o g off, (D.ptr o g off).cells = [.ptr o g off]) ∧ (∀ l, (D.rob l).cells = [.rob l]) ∧ (D.nilS.cells = [.nilS]) ∧ (D.nilP.cells = [.nilP]) ∧ (∀ x, (D.u8 x).toU8 = x) ∧
    (∀ (f : Nat × D → List D) (a : Nat × D) (l : List (Nat × D)), (a :: l).flatMap f = f a ++ l.flatMap f) ∧ (∀ (f : Nat × D → List D), ([] : List (Nat × D)).flatMap f = []) ∧ (∀ (x : D) (l : List D), (x :: l).map D.toU8 = x.toU8 :: l.map D.toU8) ∧ (([] : List D).map D.toU8 = []) :=
  ⟨fun _ => rfl, fun _ => rfl, fun _ => rfl, fun _ => rfl, fun _ => rfl, fun _ _ => rfl, fun _ => rfl, fun _ _ _ _ => rfl, fun _ _ _ => rfl, fun _ => rfl, rfl, rfl, fun _ => rfl, fun _ _ _ => List.flatMap_cons, fun _ => rfl, fun _ _ => rfl, rfl⟩
theorem nmL_ownb (l : List (List UInt8)) : nmL (l.map D.ownb) = [] := nmL_map D.ownb (fun _ => rfl) l
theorem nmL_rob (l : List (List UInt8)) : nmL (l.map D.rob) = [] := nmL_map D.rob (fun _ => rfl) l
theorem fr0_ownb (l : List (List UInt8)) : (l.map D.ownb).all D.fr0 = true := by rw [List.all_map]; exact List.all_eq_true.2 fun _ _ => rfl
theorem frz_ownb (l : List (List UInt8)) : (l.map D.ownb).map frz = l.map D.rob := by rw [List.map_map]; rfl
theorem sc_rob (l : List (List UInt8)) (n m : Nat) : (((l.map D.rob).drop m).take n).all D.sc = true := by
  refine List.all_eq_true.2 fun x hx => ?_
  obtain ⟨y, _, rfl⟩ := List.mem_map.1 (List.mem_of_mem_drop (List.mem_of_mem_take hx))
  rfl
theorem fr0_rob (l : List (List UInt8)) : (l.map D.rob).all D.fr0 = true := by rw [List.all_map]; exact List.all_eq_true.2 fun _ _ => rfl
/-- Rows of bytes, the last one of which is one's own. -/
def cz (R : List (List UInt8)) (x : List UInt8) : List D := R.map D.rob ++ [D.ownb x]
theorem cz_len (R : List (List UInt8)) (x : List UInt8) : (cz R x).length = R.length + 1 := by simp [cz]
theorem fr0_cz (R : List (List UInt8)) (x : List UInt8) : (cz R x).all D.fr0 = true := by
  unfold cz
  rw [List.all_append, fr0_rob]
  rfl
theorem nmL_cz (R : List (List UInt8)) (x : List UInt8) : nmL (cz R x) = [] := by
  unfold cz
  rw [nmL_append, nmL_rob]
  rfl
theorem frz_cz (R : List (List UInt8)) (x : List UInt8) : (cz R x).map frz = (R ++ [x]).map D.rob := by
  unfold cz
  rw [List.map_append, List.map_append, List.map_map]
  rfl
theorem cz_last (R : List (List UInt8)) (x : List UInt8) : (cz R x)[R.length]? = some (.ownb x) := by
  unfold cz
  rw [List.getElem?_append_right (by simp)]
  simp
theorem cz_set (R : List (List UInt8)) (x : List UInt8) (d : D) : (cz R x).set R.length d = R.map D.rob ++ [d] := by
  unfold cz
  rw [List.set_append_right _ _ (by simp)]
  simp
theorem cat_get (R : List (List UInt8)) (d : D) : (R.map D.rob ++ [d]).getD R.length .bot = d := by
  rw [List.getD_eq_getElem?_getD, List.getElem?_append_right (by simp)]
  simp
theorem cat_last (R : List (List UInt8)) (d : D) : (R.map D.rob ++ [d])[R.length]? = some d := by
  rw [List.getElem?_append_right (by simp)]
  simp
theorem cat_set (R : List (List UInt8)) (d e : D) : (R.map D.rob ++ [d]).set R.length e = R.map D.rob ++ [e] := by
  rw [List.set_append_right _ _ (by simp)]
  simp
theorem sc_str (l : List (List UInt8)) (n m : Nat) : (((l.map D.str).drop m).take n).all D.sc = true := by
  refine List.all_eq_true.2 fun x hx => ?_
  obtain ⟨y, _, rfl⟩ := List.mem_map.1 (List.mem_of_mem_drop (List.mem_of_mem_take hx))
  rfl
theorem fr0_str (l : List (List UInt8)) : (l.map D.str).all D.fr0 = true := by rw [List.all_map]; exact List.all_eq_true.2 fun _ _ => rfl
theorem nmL_str (l : List (List UInt8)) : nmL (l.map D.str) = [] := nmL_map D.str (fun _ => rfl) l
theorem V7 : (∀ (l : List (List UInt8)) (n m : Nat), (((l.map D.str).drop m).take n).all D.sc = true) ∧ (∀ (l : List (List UInt8)) (n : Nat), ((l.map D.str).take n).all D.sc = true) ∧ (∀ l : List (List UInt8), (l.map D.str).length = l.length) ∧
    (∀ (l : List (List UInt8)) (n : Nat), (l.map D.str).take n = (l.take n).map D.str) ∧ (∀ (l : List (List UInt8)) (n : Nat), (l.map D.str).drop n = (l.drop n).map D.str) ∧ (∀ l : List (List UInt8), (l.map D.str).all D.sc = true) ∧ (∀ (l : List (List UInt8)) (x : List UInt8), l.map D.str ++ [D.str x] = (l ++ [x]).map D.str) ∧ (∀ (a : List UInt8) (l : List (List UInt8)), (a :: l).length = l.length + 1) ∧ (∀ a b : List (List UInt8), (a ++ b).length = a.length + b.length) ∧ (([] : List (List UInt8)).length = 0) :=
  ⟨sc_str, fun l n => by have := sc_str l n 0; rwa [List.drop_zero] at this, fun _ => List.length_map _, fun l n => by rw [List.map_take], fun l n => by rw [List.map_drop],
    fun l => by have := sc_str l l.length 0; rwa [List.drop_zero, List.take_of_length_le (by simp)] at this, fun l x => by rw [List.map_append]; rfl, fun _ _ => rfl, fun _ _ => by simp, rfl⟩
theorem V6 : (∀ (sl : List (Nat × D)) (hp : List (Nat × Ob)) (dk : List Nat) (t : Nat) (d : D), (⟨sl, hp, dk⟩ : St).puto (some t) d = ⟨(t, d) :: sl, hp, dk⟩) ∧ (∀ (s : St) (d : D), s.puto none d = s) ∧ (∀ s : St, s.lays [] = s) ∧ (∀ (sl : List (Nat × D)) (hp : List (Nat × Ob)) (dk : List Nat) (o : Nat) (b : Ob) (r : List (Nat × Ob)), (⟨sl, hp, dk⟩ : St).lays ((o, b) :: r) = (⟨sl, (o, b) :: hp, dk⟩ : St).lays r) ∧
    (∀ l : List (Nat × Ob), [] ++ l = l) ∧ (∀ l : List (Nat × Ob), l ++ [] = l) ∧ (∀ (a : Nat × Ob) (l m : List (Nat × Ob)), (a :: l) ++ m = a :: (l ++ m)) ∧ (∀ (l : List (List UInt8)) (n m : Nat), (((l.map D.rob).drop m).take n).all D.sc = true) ∧ (∀ (l : List (List UInt8)) (n : Nat), ((l.map D.rob).take n).all D.sc = true) ∧ (∀ l : List (List UInt8), (l.map D.rob).length = l.length) ∧
    (∀ (l : List (List UInt8)) (n : Nat), (l.map D.rob).take n = (l.take n).map D.rob) ∧ (∀ (l : List (List UInt8)) (n : Nat), (l.map D.rob).drop n = (l.drop n).map D.rob) ∧ (∀ l : List (List UInt8), l.take l.length = l) ∧ (∀ l : List (List UInt8), l.drop 0 = l) ∧ (∀ l : List (List UInt8), (l.map D.rob).all D.sc = true) ∧ (∀ l m : List (List UInt8), l.map D.rob ++ m.map D.rob = (l ++ m).map D.rob) ∧ (∀ R x, (cz R x).length = R.length + 1) :=
  ⟨fun _ _ _ _ _ => rfl, fun _ _ => rfl, fun _ => rfl, fun _ _ _ _ _ _ => rfl, fun _ => rfl, fun l => List.append_nil l, fun _ _ _ => rfl, sc_rob, fun l n => by have := sc_rob l n 0; rwa [List.drop_zero] at this, fun _ => List.length_map _, fun l n => by rw [List.map_take], fun l n => by rw [List.map_drop], fun l => List.take_length, fun _ => rfl,
    fun l => by have := sc_rob l l.length 0; rwa [List.drop_zero, List.take_of_length_le (by simp)] at this, fun l m => by rw [List.map_append], cz_len⟩
/-- Truths. -/
theorem BN : (∀ b : Bool, ((!b) = true) = (b = false)) ∧ (∀ b : Bool, ((!b) = false) = (b = true)) ∧ (∀ a b : Bool, ((a && b) = true) = (a = true ∧ b = true)) ∧ (∀ a b : Bool, ((a || b) = true) = (a = true ∨ b = true)) ∧
    (∀ a b : Bool, ((a && b) = false) = (a = false ∨ b = false)) ∧ (∀ a b : Bool, ((a || b) = false) = (a = false ∧ b = false)) ∧ (∀ (p : Prop) [Decidable p], (decide p = true) = p) ∧ (∀ (p : Prop) [Decidable p], (decide p = false) = ¬ p) ∧ (∀ (p : Prop) [Decidable p], (¬ ¬ p) = p) ∧ ((true = true) = True) ∧ ((false = false) = True) ∧ ((true = false) = False) ∧ ((false = true) = False) :=
  ⟨fun b => by simp, fun b => by simp, fun a b => by simp, fun a b => by simp, fun a b => by cases a <;> simp, fun a b => by simp, fun p _ => by simp, fun p _ => by simp, fun p _ => by simp, by simp, by simp, by simp, by simp⟩
/-- How a function is entered. -/
theorem fc_in {P : Program} {Ti : Nat → TI} {G : Nat → Option D} {f : Nat} {fn : Func} {c : Code} {ins : List D} {res : D} {outs : Option (List D)} {ts : List Nat} {s0 : St} (hti : tiOf P = Ti) (gp : ∀ g cs, G g = some cs → cs.pf0 = true)
    (hf : P.funcs[f]? = some fn) (hb : fn.body = some c) (hrs : fn.results = (ts.map ResultVar.tmp).toArray) (hl : ts.length ≤ 5) (hn : Nat.ble ins.length fn.ntmps = true) (had : D.adL ins = true) (ho : OutOk ins outs) (hi : inSt ins = s0)
    (h : ∀ C, CxOk P Ti G fn.ntmps outs C → VC C c s0 (RetQ ts res outs)) : FC P G f ins res outs := by
  subst hi
  exact fc_of hti gp hf hb hrs hl (Nat.le_of_ble_eq_true hn) had ho h
section
variable {s : St}
theorem mat_i {k : IntKind} {a b : Int} (e : a = b) : Mat s (.int k a) (.int k b) [] [] := mat_eq (by rw [e]) rfl
theorem mat_bl {a b : Bool} (e : a = b) : Mat s (.bool a) (.bool b) [] [] := mat_eq (by rw [e]) rfl
theorem mat_u8 {a b : UInt8} (e : a = b) : Mat s (.u8 a) (.u8 b) [] [] := mat_eq (by rw [e]) rfl
theorem mat_u32 {a b : UInt32} (e : a = b) : Mat s (.u32 a) (.u32 b) [] [] := mat_eq (by rw [e]) rfl
theorem mat_st {a b : List UInt8} (e : a = b) : Mat s (.str a) (.str b) [] [] := mat_eq (by rw [e]) rfl
theorem mat_ab {a b : List UInt8} (e : a = b) : Mat s (.aggb a) (.aggb b) [] [] := mat_eq (by rw [e]) rfl
theorem mat_rbe {a b : List UInt8} (e : a = b) : Mat s (.rob a) (.rob b) [] [] := mat_eq (by rw [e]) rfl
theorem mat_nrb {b : List UInt8} (e : [] = b) : Mat s .nilS (.rob b) [] [] := by subst e; exact .nil_rb
theorem mat_nos {e : Nat} {n : Nat} {cs : List D} (hn : n = 0) (h : cs = []) : Mat s .nilS (.owns e n cs) [] [] := by subst h; subst hn; exact .nil_s e
theorem mat_sls {o g len e : Nat} {cs cs' : List D} {own fro : List Nat} (ho : (s.ob o).ct = some (.cells cs)) (hg : g = (s.sh o).gen) (he : (s.sh o).esz = e) (h0 : Nat.blt 0 e = true) (hl : cs.length = len * e) (hsc : cs.all D.sc = true) (h : Mat s (.tup cs) (.tup cs') own fro) : Mat s (.sl o g 0 len) (.owns e len cs') (o :: own) fro :=
  .sl_s o g 0 len e cs cs' own fro ho hg he (by simpa [Nat.blt_eq] using h0) (by rw [← hl, List.drop_zero, List.take_length]; exact hsc) (by rw [← hl, List.drop_zero, List.take_length]; exact h)
theorem mat_slf {o g len len' e : Nat} {cs cs' : List D} (ho : (s.ob o).ct = some (.cells cs)) (hg : g = (s.sh o).gen) (he : (s.sh o).esz = e) (h0 : Nat.blt 0 e = true) (e2 : len = len') (ec : cs = cs') (hl : cs.length = len * e) (hf : cs.all D.fr0 = true) : Mat s (.sl o g 0 len) (.owns e len' cs') [o] [] := by
  subst e2; subst ec
  exact .sl_f o g len e cs ho hg he (by simpa [Nat.blt_eq] using h0) hl hf
theorem mat_nob {b : List UInt8} (e : [] = b) : Mat s .nilS (.ownb b) [] [] := by subst e; exact .nil_b
theorem mat_rb {o g off len : Nat} {l l' : List UInt8} (ho : (s.ob o).ct = some (.bytes l)) (hg : g = (s.sh o).gen) (he : (s.sh o).esz = 1) (e : (l.drop off).take len = l') : Mat s (.sl o g off len) (.rob l') [] [o] := by
  subst e; exact .sl_rb o g off len l ho hg he
theorem mat_s0 {o g len : Nat} {l l' : List UInt8} (ho : (s.ob o).ct = some (.bytes l)) (hg : g = (s.sh o).gen) (he : (s.sh o).esz = 1) (hl : len = l.length) (e : l = l') : Mat s (.sl o g 0 len) (.ownb l') [o] [] := by
  refine mat_sl ho hg he ?_
  rw [List.drop_zero, hl, List.take_length, e]
theorem mat_r0 {o g len : Nat} {l l' : List UInt8} (ho : (s.ob o).ct = some (.bytes l)) (hg : g = (s.sh o).gen) (he : (s.sh o).esz = 1) (hl : len = l.length) (e : l = l') : Mat s (.sl o g 0 len) (.rob l') [] [o] := by
  refine mat_rb ho hg he ?_
  rw [List.drop_zero, hl, List.take_length, e]
theorem mat_pf {o g : Nat} {cs cs' : List D} (ho : (s.ob o).ct = some (.cells cs)) (hg : g = (s.sh o).gen) (hf : cs.all D.fr0 = true) (h0 : Nat.blt 0 cs.length = true) (e : cs = cs') : Mat s (.ptr o g 0) (.ownp cs') [o] [] := by
  subst e; exact .ptr_f o g cs ho hg hf (by simpa [Nat.blt_eq] using h0)
end
theorem fn_n {ts : List Nat} {res : D} {outs : Option (List D)} {s : St} (h : Fin ts res outs s) : RetQ ts res outs .normal s := ⟨.inl rfl, h⟩
theorem fn_r {ts : List Nat} {res : D} {outs : Option (List D)} {s : St} (h : Fin ts res outs s) : RetQ ts res outs .ret s := ⟨.inr rfl, h⟩
/-- Rows of bytes, of strings, are given to the readers. -/
theorem kgiver {C : Ctx} {sl : List (Nat × D)} {hp : List (Nat × Ob)} {dk : List Nat} (t o : Nat) {sh : Sh} {ps : List (List UInt8)} {g len : Nat} (ho : (⟨sl, hp, dk⟩ : St).ob o = ⟨sh, some (.cells (ps.map D.rob))⟩) (he : frc (look .bot sl t) = some (.sl o g 0 len)) (hg : g = sh.gen) (he1 : sh.esz = 1) (hl : ps.length = len) :
    Wk C ⟨sl, hp, dk⟩ ⟨(t, .rof 1 len (fun i _ => .rob (ps.getD i []))) :: sl, (o, ⟨sh, none⟩) :: hp, dk⟩ :=
  kgivef t o (fun i _ => .rob (ps.getD i [])) ho he hg he1 (by simpa using hl) (fun i hi => ⟨by rw [List.getElem?_map, List.getElem?_eq_getElem (by omega), List.getD_eq_getElem?_getD, List.getElem?_eq_getElem (by omega)]; rfl, rfl⟩)
    (by rw [List.all_map]; exact List.all_eq_true.2 fun _ _ => rfl) (by rw [List.all_map]; exact List.all_eq_true.2 fun _ _ => rfl)
theorem kgivest {C : Ctx} {sl : List (Nat × D)} {hp : List (Nat × Ob)} {dk : List Nat} (t o : Nat) {sh : Sh} {ps : List (List UInt8)} {g len : Nat} (ho : (⟨sl, hp, dk⟩ : St).ob o = ⟨sh, some (.cells (ps.map D.str))⟩) (he : frc (look .bot sl t) = some (.sl o g 0 len)) (hg : g = sh.gen) (he1 : sh.esz = 1) (hl : ps.length = len) :
    Wk C ⟨sl, hp, dk⟩ ⟨(t, .rof 1 len (fun i _ => .str (ps.getD i []))) :: sl, (o, ⟨sh, none⟩) :: hp, dk⟩ :=
  kgivef t o (fun i _ => .str (ps.getD i [])) ho he hg he1 (by simpa using hl) (fun i hi => ⟨by rw [List.getElem?_map, List.getElem?_eq_getElem (by omega), List.getD_eq_getElem?_getD, List.getElem?_eq_getElem (by omega)]; rfl, rfl⟩)
    (by rw [List.all_map]; exact List.all_eq_true.2 fun _ _ => rfl) (by rw [List.all_map]; exact List.all_eq_true.2 fun _ _ => rfl)
end Go.Proofs.YtabkpoklihkifaaDoor
