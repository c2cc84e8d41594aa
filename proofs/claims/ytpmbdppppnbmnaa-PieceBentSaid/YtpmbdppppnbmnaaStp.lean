/- The steps of a region in the abstract state: guards, and the judgement over code. Over any program. -/
import Derived.Test.YtpmbdppppnbmnaaOpd
import Derived.Tactics
import Derived.Orders
namespace Go.Proofs.Ytpmbdppppnbmnaa
open Go Go.RowKit
set_option linter.unusedVariables false
set_option linter.unusedSimpArgs false

/-- The slot that an operation of that number writes. -/
def gsl (ops : Array Oper) (g : Nat) : Option Nat := (ops[g]?).bind (·.dst)
/-- The slots that an operation looks at, its guard's too. -/
def tOf (ops : Array Oper) (o : Oper) : List Nat := opsT o.op ++ (match o.guard with | some (g, _) => (gsl ops g).toList | none => [])
/-- The effect of an operation with its guard. -/
def EffG (C : Ctx) (ops : Array Oper) (o : Oper) (s : St) (d : D) (obs : List (Nat × Ob)) (R : List Nat) : Prop :=
  ∀ σ : St, (∀ t ∈ tOf ops o, σ.slot t = s.slot t) → (∀ x ∈ R, σ.ob x = s.ob x) → ∀ (K : Act → World → Prop) (Q : Exit → Act → World → Prop) (a : Act) (w : World), Rep C σ a w →
    (∀ a' w', Rep C ((σ.lays obs).puto o.dst d) a' w' → K a' w') →
    if Region.wanted o (yielded ops a.tmps) then o.wp C.P a w K Q else K (a.put o.dst undef) w
theorem or_wanted {p : Prop} [Decidable p] {A B X : Prop} (h : if p then A else B) : if p then A ∨ X else B := by
  split
  · rename_i hp; rw [if_pos hp] at h; exact .inl h
  · rename_i hp; rw [if_neg hp] at h; exact h
/-- The guard, where it is decided in favour. -/
def gok (ops : Array Oper) (s : St) (gd : Option (Nat × Bool)) : Prop :=
  match gd with
  | none => True
  | some (g, want) => ∃ t, gsl ops g = some t ∧ frc (s.slot t) = some (.bool want)

section
variable {C : Ctx} {s σ : St} {ops : Array Oper} {o : Oper} {d : D} {obs : List (Nat × Ob)} {R : List Nat} {a : Act} {w : World}
theorem yield_of (h : Rep C σ a w) {g t : Nat} (hg : gsl ops g = some t) {b : Bool} (hb : σ.slot t = .bool b) : yielded ops a.tmps g = some b := by
  obtain ⟨_, _, ρ, S, Φ, h1, h2⟩ := h
  have := h2 t
  rw [hb] at this
  have hv := inv_bool this
  unfold yielded
  unfold gsl at hg
  rw [hg]
  have h3 : a.tmps[t]? = some (.bool b) := by
    rw [Array.getD_eq_getD_getElem?] at hv
    rcases hx : a.tmps[t]? with _ | v
    · rw [hx] at hv; cases hv
    · rw [hx] at hv; rw [show v = .bool b from hv]
  simp [h3]
theorem effG_of (h : Eff C o s d obs (opsT o.op) R) (hg : gok ops s o.guard) : EffG C ops o s d obs R := by
  intro σ hT hR K Q a w hrep hK
  have hT' : ∀ t ∈ opsT o.op, σ.slot t = s.slot t := fun t ht => hT t (List.mem_append_left _ ht)
  have hw : Region.wanted o (yielded ops a.tmps) = true := by
    unfold Region.wanted
    rcases hgd : o.guard with _ | ⟨g, want⟩
    · rfl
    · rw [hgd] at hg
      obtain ⟨t, h1, h2⟩ := hg
      have h3 : σ.slot t = .bool want := by rw [hT t (by simp [tOf, hgd, h1])]; exact frc_ok h2
      simp [yield_of hrep h1 h3]
  rw [if_pos hw]
  exact h σ hT' hR K Q a w hrep hK
theorem rv_undef {S : Nat → Prop} {ρ : Nat → Pl} {H : Nat → Sh} : RV w S ρ H (.tup []) undef [] := .tup [] [] [] [] rfl rfl rfl (by simp)
theorem rep_undef (h : Rep C σ a w) (dst : Option Nat) (hd : dstOk C.n dst) (d : D) (hv : ∀ S ρ H, RV w S ρ H d undef []) : Rep C (σ.puto dst d) (a.put dst undef) w := by
  obtain ⟨h1, h2, ρ, S, Φ, h3, h4⟩ := h
  exact rep_put h1 h2 h3 h4 dst hd d undef (hv _ _ _)
theorem effG_no {g t : Nat} {b want : Bool} (hgd : o.guard = some (g, want)) (hg : gsl ops g = some t) (hs : s.slot t = .bool b) (hb : b ≠ want) (hd : dstOk C.n o.dst) : EffG C ops o s (.tup []) [] [] := by
  intro σ hT hR K Q a w hrep hK
  have h3 : σ.slot t = .bool b := by rw [hT t (by simp [tOf, hgd, hg])]; exact hs
  have hw : ¬ Region.wanted o (yielded ops a.tmps) = true := by
    unfold Region.wanted
    simp [hgd, yield_of hrep hg h3, hb]
  rw [if_neg hw]
  exact hK _ _ (rep_undef hrep _ hd _ fun _ _ _ => rv_undef)
theorem yield_un (h : Rep C σ a w) {g t : Nat} (hg : gsl ops g = some t) (hb : σ.slot t = .tup []) : yielded ops a.tmps g = none := by
  obtain ⟨_, _, ρ, S, Φ, h1, h2⟩ := h
  have := h2 t
  rw [hb] at this
  unfold yielded
  unfold gsl at hg
  rw [hg]
  have hv : ∃ vs, a.tmps.getD t undef = .tuple vs := by
    generalize a.tmps.getD t undef = v at this
    cases this
    exact ⟨_, rfl⟩
  obtain ⟨vs, hv⟩ := hv
  rw [Array.getD_eq_getD_getElem?] at hv
  rcases hx : a.tmps[t]? with _ | v
  · simp [hx]
  · rw [hx] at hv
    have hv' : v = .tuple vs := hv
    subst hv'
    simp [hx]
theorem effG_nu {g t : Nat} {want : Bool} (hgd : o.guard = some (g, want)) (hg : gsl ops g = some t) (hs : s.slot t = .tup []) (hd : dstOk C.n o.dst) : EffG C ops o s (.tup []) [] [] := by
  intro σ hT hR K Q a w hrep hK
  have h3 : σ.slot t = .tup [] := by rw [hT t (by simp [tOf, hgd, hg])]; exact hs
  have hw : ¬ Region.wanted o (yielded ops a.tmps) = true := by
    unfold Region.wanted
    simp [hgd, yield_un hrep hg h3]
  rw [if_neg hw]
  exact hK _ _ (rep_undef hrep _ hd _ fun _ _ _ => rv_undef)
theorem effG_if {g t : Nat} {b want : Bool} (hgd : o.guard = some (g, want)) (hg : gsl ops g = some t) (hs : s.slot t = .bool b) (hd : dstOk C.n o.dst) (h : b = want → Eff C o s d [] (opsT o.op) R) : EffG C ops o s (.iff (b == want) d) [] R := by
  intro σ hT hR K Q a w hrep hK
  by_cases hb : b = want
  · subst hb
    have h1 := effG_of (ops := ops) (h rfl) (by rw [hgd]; exact ⟨t, hg, by rw [hs, frc_eq]⟩) σ hT hR K Q a w hrep
    refine h1 (fun a' w' hr => hK a' w' ?_)
    obtain ⟨q1, q2, ρ, S, Φ, q3, q4⟩ := hr
    have e1 : ∀ d : D, ((σ.lays []).puto o.dst d).sh = σ.sh := fun d => by cases o.dst <;> rfl
    have e2 : ∀ d : D, ((σ.lays []).puto o.dst d).dk = σ.dk := fun d => by cases o.dst <;> rfl
    have e3 : ∀ (d : D) x, ((σ.lays []).puto o.dst d).ob x = σ.ob x := fun d x => by cases o.dst <;> rfl
    refine ⟨by rw [e2] at q1 ⊢; exact q1, q2, ρ, S, Φ, q3.congr (fun x => by rw [e3, e3]) (by rw [e2, e2]), fun t' => ?_⟩
    have := q4 t'
    rw [e1] at this ⊢
    rcases hdst : o.dst with _ | x
    · rw [hdst] at this; exact this
    · rw [hdst] at this
      show RV w' S ρ σ.sh ((σ.put x _).slot t') _ []
      have this' : RV w' S ρ σ.sh ((σ.put x d).slot t') (a'.tmps.getD t' undef) [] := this
      rw [St.slot_put] at this' ⊢
      split
      · rename_i hx; rw [if_pos hx] at this'; exact .iff _ _ _ (fun _ => this') (fun e => by simp at e)
      · rename_i hx; rw [if_neg hx] at this'; exact this'
  · have h3 : σ.slot t = .bool b := by rw [hT t (by simp [tOf, hgd, hg])]; exact hs
    have hw : ¬ Region.wanted o (yielded ops a.tmps) = true := by
      unfold Region.wanted
      simp [hgd, yield_of hrep hg h3, hb]
    rw [if_neg hw]
    exact hK _ _ (rep_undef hrep _ hd _ fun _ _ _ => .iff _ _ _ (fun e => absurd (by simpa using e) hb) (fun _ => rfl))
end

/-- What each step of a region may use. -/
structure Stp (C : Ctx) (ops : Array Oper) (M : List (List Nat × List Nat) → List Oper → St → Prop) : Prop where
  step : ∀ acc o rest s d obs R, EffG C ops o s d obs R → M ((obs.map (·.1), R) :: acc) rest ((s.lays obs).puto o.dst d) → M acc (o :: rest) s
/-- The tables that a walk goes by. -/
structure Env (C : Ctx) (Ti : Nat → TI) (G : Nat → Option D) (n : Nat) : Prop where
  ti : tiOf C.P = Ti
  g : C.G = G
  n : C.n = n

section
variable {C : Ctx} {Ti : Nat → TI} {G : Nat → Option D} {n : Nat} {ops : Array Oper} {M : List (List Nat × List Nat) → List Oper → St → Prop}
  {acc : List (List Nat × List Nat)} {rest : List Oper} {sl : List (Nat × D)} {hp : List (Nat × Ob)} {dk : List Nat} {t : Nat} {op : Op} {ty : TypeId} {pos : String} {after : Array Edge} {gd : Option (Nat × Bool)}
  {g : Prop} {d d1 d' : D} {o : Nat} {b b' : Ob} {R : List Nat}
theorem env_lt (hE : Env C Ti G n) (ht : Nat.blt t n = true) : dstOk C.n (some t) := dstOk_some (by rw [hE.n]; simpa [Nat.blt_eq] using ht)
theorem st_p (hE : Env C Ti G n) (hM : Stp C ops M) (e : opD Ti G ⟨sl, hp, dk⟩ (some t) op = some (g, d, [], R)) (hg : g) (ht : Nat.blt t n = true) (hgd : gok ops ⟨sl, hp, dk⟩ gd) (hd0 : d = d1) (hd : d1 = d')
    (k : M (([], R) :: acc) rest ⟨(t, d') :: sl, hp, dk⟩) : M acc (⟨some t, op, ty, pos, after, gd⟩ :: rest) ⟨sl, hp, dk⟩ := by
  subst hd0
  subst hd
  rw [← hE.ti, ← hE.g] at e
  refine hM.step _ _ _ _ d [] R (effG_of (opD_ok (env_lt hE ht) e hg fun T x y h => ?_) hgd) k
  subst h
  simp only [opD, evf_eq] at e
  split at e
  · obtain ⟨_, _, _, h⟩ := optO_ok e; cases h
  · cases e
theorem notStore {Ti : Nat → TI} {G : Nat → Option D} {s : St} {T : TypeId} {x y : Operand} {dst dst' : Option Nat} (e : opD Ti G s dst (.store T x y) = some (g, d, [(o, b)], R)) : opD Ti G s dst' (.store T x y) = some (g, d, [(o, b)], R) := e
theorem st_l (hE : Env C Ti G n) (hM : Stp C ops M) (e : opD Ti G ⟨sl, hp, dk⟩ (some t) op = some (g, d, [(o, b)], R)) (hg : g) (ht : Nat.blt t n = true) (hgd : gok ops ⟨sl, hp, dk⟩ gd) (hs : (match op with | .store _ _ _ => false | _ => true) = true) (hb : b = b') (hd0 : d = d1) (hd : d1 = d')
    (k : M (([o], R) :: acc) rest ⟨(t, d') :: sl, (o, b') :: hp, dk⟩) : M acc (⟨some t, op, ty, pos, after, gd⟩ :: rest) ⟨sl, hp, dk⟩ := by
  subst hd0
  subst hd
  subst hb
  rw [← hE.ti, ← hE.g] at e
  refine hM.step _ _ _ _ d [(o, b)] R (effG_of (opD_ok (env_lt hE ht) e hg fun T x y h => ?_) hgd) k
  subst h
  cases hs
theorem st_s (hE : Env C Ti G n) (hM : Stp C ops M) (e : opD Ti G ⟨sl, hp, dk⟩ none op = some (g, d, [(o, b)], R)) (hg : g) (hgd : gok ops ⟨sl, hp, dk⟩ gd) (hb : b = b')
    (k : M (([o], R) :: acc) rest ⟨sl, (o, b') :: hp, dk⟩) : M acc (⟨none, op, ty, pos, after, gd⟩ :: rest) ⟨sl, hp, dk⟩ := by
  subst hb
  rw [← hE.ti, ← hE.g] at e
  exact hM.step _ _ _ _ d [(o, b)] R (effG_of (opD_ok dstOk_none e hg fun T x y h => rfl) hgd) k
theorem st_n (hE : Env C Ti G n) (hM : Stp C ops M) (e : opD Ti G ⟨sl, hp, dk⟩ none op = some (g, d, [], R)) (hg : g) (hgd : gok ops ⟨sl, hp, dk⟩ gd)
    (k : M (([], R) :: acc) rest ⟨sl, hp, dk⟩) : M acc (⟨none, op, ty, pos, after, gd⟩ :: rest) ⟨sl, hp, dk⟩ := by
  rw [← hE.ti, ← hE.g] at e
  exact hM.step _ _ _ _ d [] R (effG_of (opD_ok dstOk_none e hg fun T x y h => rfl) hgd) k
/-- The guard is decided against. -/
theorem st_no (hE : Env C Ti G n) (hM : Stp C ops M) {gi u : Nat} {bb want : Bool} (hg : gsl ops gi = some u) (hs : frc ((⟨sl, hp, dk⟩ : St).slot u) = some (.bool bb)) (hb : bb = !want) (ht : Nat.blt t n = true)
    (k : M (([], []) :: acc) rest ⟨(t, .tup []) :: sl, hp, dk⟩) : M acc (⟨some t, op, ty, pos, after, some (gi, want)⟩ :: rest) ⟨sl, hp, dk⟩ :=
  hM.step _ _ _ _ (.tup []) [] [] (effG_no rfl hg (frc_ok hs) (by rw [hb]; cases want <;> simp) (env_lt hE ht)) k
theorem st_nu (hE : Env C Ti G n) (hM : Stp C ops M) {gi u : Nat} {want : Bool} (hg : gsl ops gi = some u) (hs : frc ((⟨sl, hp, dk⟩ : St).slot u) = some (.tup [])) (ht : Nat.blt t n = true)
    (k : M (([], []) :: acc) rest ⟨(t, .tup []) :: sl, hp, dk⟩) : M acc (⟨some t, op, ty, pos, after, some (gi, want)⟩ :: rest) ⟨sl, hp, dk⟩ :=
  hM.step _ _ _ _ (.tup []) [] [] (effG_nu rfl hg (frc_ok hs) (env_lt hE ht)) k
theorem st_no_ (hM : Stp C ops M) {gi u : Nat} {bb want : Bool} (hg : gsl ops gi = some u) (hs : frc ((⟨sl, hp, dk⟩ : St).slot u) = some (.bool bb)) (hb : bb = !want)
    (k : M (([], []) :: acc) rest ⟨sl, hp, dk⟩) : M acc (⟨none, op, ty, pos, after, some (gi, want)⟩ :: rest) ⟨sl, hp, dk⟩ :=
  hM.step _ _ _ _ (.tup []) [] [] (effG_no rfl hg (frc_ok hs) (by rw [hb]; cases want <;> simp) dstOk_none) k
theorem st_nu_ (hM : Stp C ops M) {gi u : Nat} {want : Bool} (hg : gsl ops gi = some u) (hs : frc ((⟨sl, hp, dk⟩ : St).slot u) = some (.tup []))
    (k : M (([], []) :: acc) rest ⟨sl, hp, dk⟩) : M acc (⟨none, op, ty, pos, after, some (gi, want)⟩ :: rest) ⟨sl, hp, dk⟩ :=
  hM.step _ _ _ _ (.tup []) [] [] (effG_nu rfl hg (frc_ok hs) dstOk_none) k
theorem st_cases {b : Bool} (h1 : b = true → M acc rest ⟨(t, .bool true) :: sl, hp, dk⟩) (h2 : b = false → M acc rest ⟨(t, .bool false) :: sl, hp, dk⟩) : M acc rest ⟨(t, .bool b) :: sl, hp, dk⟩ := by
  cases b
  · exact h2 rfl
  · exact h1 rfl
/-- The guard is open. -/
theorem st_if (hE : Env C Ti G n) (hM : Stp C ops M) {gi u : Nat} {bb want : Bool} (hgi : gsl ops gi = some u) (hs : frc ((⟨sl, hp, dk⟩ : St).slot u) = some (.bool bb)) (e : opD Ti G ⟨sl, hp, dk⟩ (some t) op = some (g, d, [], R)) (hg : bb = want → g) (ht : Nat.blt t n = true) (hd0 : d = d1) (hd : d1 = d')
    (k : M (([], R) :: acc) rest ⟨(t, .iff (bb == want) d') :: sl, hp, dk⟩) : M acc (⟨some t, op, ty, pos, after, some (gi, want)⟩ :: rest) ⟨sl, hp, dk⟩ := by
  subst hd0
  subst hd
  rw [← hE.ti, ← hE.g] at e
  refine hM.step _ _ _ _ (.iff (bb == want) d) [] R (effG_if rfl hgi (frc_ok hs) (env_lt hE ht) (fun h => opD_ok (env_lt hE ht) e (hg h) fun T x y h => ?_)) k
  subst h
  simp only [opD, evf_eq] at e
  split at e
  · obtain ⟨_, _, _, h⟩ := optO_ok e; cases h
  · cases e
theorem st_pickT (hE : Env C Ti G n) (hM : Stp C ops M) {c x y : Operand} (hc : frc (evg G ⟨sl, hp, dk⟩ c) = some (.bool true)) (hd : frc (evg G ⟨sl, hp, dk⟩ x) = some d') (ht : Nat.blt t n = true) (hgd : gok ops ⟨sl, hp, dk⟩ gd)
    (k : M (([], []) :: acc) rest ⟨(t, d') :: sl, hp, dk⟩) : M acc (⟨some t, .pick c x y, ty, pos, after, gd⟩ :: rest) ⟨sl, hp, dk⟩ := by
  have h1 := frc_ok hc
  have h2 := frc_ok hd
  rw [← hE.g, ← ev_g] at h1 h2
  subst h2
  exact hM.step _ _ _ _ _ [] [] (effG_of ((eff_pickT c x y h1 (env_lt hE ht)).weak (by simp [opsT, Op.operands]) (by simp)) hgd) k
theorem st_pickF (hE : Env C Ti G n) (hM : Stp C ops M) {c x y : Operand} (hc : frc (evg G ⟨sl, hp, dk⟩ c) = some (.bool false)) (hd : frc (evg G ⟨sl, hp, dk⟩ y) = some d') (ht : Nat.blt t n = true) (hgd : gok ops ⟨sl, hp, dk⟩ gd)
    (k : M (([], []) :: acc) rest ⟨(t, d') :: sl, hp, dk⟩) : M acc (⟨some t, .pick c x y, ty, pos, after, gd⟩ :: rest) ⟨sl, hp, dk⟩ := by
  have h1 := frc_ok hc
  have h2 := frc_ok hd
  rw [← hE.g, ← ev_g] at h1 h2
  subst h2
  exact hM.step _ _ _ _ _ [] [] (effG_of ((eff_pickF c x y h1 (env_lt hE ht)).weak (by simp [opsT, Op.operands]) (by simp)) hgd) k
/-- A call by a contract. -/
def outG (s : St) (outs : Option (List D)) (own : List Nat) : List (Nat × Ob) := outO s outs own
theorem st_call {P : Program} (hE : Env C Ti G n) (hM : Stp C ops M) (hP : C.P = P) {dst : Option Tmp} {f : Nat} {args : Array Operand} {ts : Array TypeId} (hok : fnOk P f) {ins : List D} {res : D} {outs : Option (List D)} (fc : FC P G f ins res outs)
    {own fro : List Nat} (hm : Mat ⟨sl, hp, dk⟩ (.tup (args.toList.map (evg G ⟨sl, hp, dk⟩))) (.tup ins) own fro) (hnd : own.Nodup) (hdis : ∀ o ∈ own, o ∉ fro)
    (hnr : fro = [] ∨ (res.nr = true ∧ ∀ cs, outs = some cs → cs.all D.nr0 = true)) (had : res.ad = true) (hout : RcvOk ⟨sl, hp, dk⟩ outs own (args.toList.map (evg G ⟨sl, hp, dk⟩))) (hd : dstOk n dst) (hgd : gok ops ⟨sl, hp, dk⟩ gd)
    {obs : List (Nat × Ob)} (ho : outO ⟨sl, hp, dk⟩ outs own ++ (adO (⟨sl, hp, dk⟩ : St).ob (dst.getD 0) res).2 = obs) (hd' : (adO (⟨sl, hp, dk⟩ : St).ob (dst.getD 0) res).1 = d') {R : List Nat} (hR : own ++ fro ++ (adO (⟨sl, hp, dk⟩ : St).ob (dst.getD 0) res).2.map (·.1) = R)
    (k : M ((obs.map (·.1), R) :: acc) rest (((⟨sl, hp, dk⟩ : St).lays obs).puto dst d')) : M acc (⟨dst, .call { callee := .value (.func f), args := args, argTypes := ts }, ty, pos, after, gd⟩ :: rest) ⟨sl, hp, dk⟩ := by
  subst hd'
  subst hR
  subst ho
  refine hM.step _ _ _ _ _ _ _ (effG_of ((eff_call (P := P) (G := G) (fo := .func f) (xs := args.toList) rfl hok fc hP hE.g (by rw [ev_g, hE.g]; exact hm) hnd hdis hnr had (by rw [ev_g, hE.g]; exact hout) (by rw [hE.n]; exact hd)).weak ?_ (fun _ h => h)) hgd) k
  intro z hz
  simp only [opsT, Op.operands, Call.operands, List.mem_flatMap] at hz ⊢
  rcases List.mem_append.1 hz with hz | hz
  · simp [opT] at hz
  · obtain ⟨x, hx, hz⟩ := List.mem_flatMap.1 hz
    exact ⟨x, by simp [hx], hz⟩
theorem st_c0 {P : Program} (hE : Env C Ti G n) (hM : Stp C ops M) (hP : C.P = P) {f : Nat} {args : Array Operand} {ts : Array TypeId} (hok : fnOk P f) {ins : List D} {res : D} {outs : Option (List D)} (fc : FC P G f ins res outs)
    {own fro : List Nat} (hm : Mat ⟨sl, hp, dk⟩ (.tup (args.toList.map (evg G ⟨sl, hp, dk⟩))) (.tup ins) own fro) (hnd : own.Nodup) (hdis : ∀ o ∈ own, o ∉ fro)
    (hnr : fro = [] ∨ (res.nr = true ∧ ∀ cs, outs = some cs → cs.all D.nr0 = true)) (had : res.ad = true) (hout : RcvOk ⟨sl, hp, dk⟩ outs own (args.toList.map (evg G ⟨sl, hp, dk⟩))) (ht : Nat.blt t n = true) (hgd : gok ops ⟨sl, hp, dk⟩ gd)
    (ho : outO ⟨sl, hp, dk⟩ outs own ++ (adO (⟨sl, hp, dk⟩ : St).ob t res).2 = []) (hd' : (adO (⟨sl, hp, dk⟩ : St).ob t res).1 = d') {R : List Nat} (hR : own ++ fro ++ (adO (⟨sl, hp, dk⟩ : St).ob t res).2.map (·.1) = R)
    (k : M (([], R) :: acc) rest ⟨(t, d') :: sl, hp, dk⟩) : M acc (⟨some t, .call { callee := .value (.func f), args := args, argTypes := ts }, ty, pos, after, gd⟩ :: rest) ⟨sl, hp, dk⟩ :=
  st_call hE hM hP hok fc hm hnd hdis hnr had hout (dstOk_some (by simpa [Nat.blt_eq] using ht)) hgd ho hd' hR k
theorem st_c1 {P : Program} (hE : Env C Ti G n) (hM : Stp C ops M) (hP : C.P = P) {f : Nat} {args : Array Operand} {ts : Array TypeId} (hok : fnOk P f) {ins : List D} {res : D} {outs : Option (List D)} (fc : FC P G f ins res outs)
    {own fro : List Nat} (hm : Mat ⟨sl, hp, dk⟩ (.tup (args.toList.map (evg G ⟨sl, hp, dk⟩))) (.tup ins) own fro) (hnd : own.Nodup) (hdis : ∀ o ∈ own, o ∉ fro)
    (hnr : fro = [] ∨ (res.nr = true ∧ ∀ cs, outs = some cs → cs.all D.nr0 = true)) (had : res.ad = true) (hout : RcvOk ⟨sl, hp, dk⟩ outs own (args.toList.map (evg G ⟨sl, hp, dk⟩))) (ht : Nat.blt t n = true) (hgd : gok ops ⟨sl, hp, dk⟩ gd)
    {o1 : Nat} {b1 b1' : Ob} (ho : outO ⟨sl, hp, dk⟩ outs own ++ (adO (⟨sl, hp, dk⟩ : St).ob t res).2 = [(o1, b1)]) (hd' : (adO (⟨sl, hp, dk⟩ : St).ob t res).1 = d') {R : List Nat} (hR : own ++ fro ++ (adO (⟨sl, hp, dk⟩ : St).ob t res).2.map (·.1) = R)
    (hb1 : b1 = b1') (k : M (([o1], R) :: acc) rest ⟨(t, d') :: sl, (o1, b1') :: hp, dk⟩) : M acc (⟨some t, .call { callee := .value (.func f), args := args, argTypes := ts }, ty, pos, after, gd⟩ :: rest) ⟨sl, hp, dk⟩   := by
  subst hb1
  exact st_call hE hM hP hok fc hm hnd hdis hnr had hout (dstOk_some (by simpa [Nat.blt_eq] using ht)) hgd ho hd' hR k
theorem st_c2 {P : Program} (hE : Env C Ti G n) (hM : Stp C ops M) (hP : C.P = P) {f : Nat} {args : Array Operand} {ts : Array TypeId} (hok : fnOk P f) {ins : List D} {res : D} {outs : Option (List D)} (fc : FC P G f ins res outs)
    {own fro : List Nat} (hm : Mat ⟨sl, hp, dk⟩ (.tup (args.toList.map (evg G ⟨sl, hp, dk⟩))) (.tup ins) own fro) (hnd : own.Nodup) (hdis : ∀ o ∈ own, o ∉ fro)
    (hnr : fro = [] ∨ (res.nr = true ∧ ∀ cs, outs = some cs → cs.all D.nr0 = true)) (had : res.ad = true) (hout : RcvOk ⟨sl, hp, dk⟩ outs own (args.toList.map (evg G ⟨sl, hp, dk⟩))) (ht : Nat.blt t n = true) (hgd : gok ops ⟨sl, hp, dk⟩ gd)
    {o1 o2 : Nat} {b1 b2 b1' b2' : Ob} (ho : outO ⟨sl, hp, dk⟩ outs own ++ (adO (⟨sl, hp, dk⟩ : St).ob t res).2 = [(o1, b1), (o2, b2)]) (hd' : (adO (⟨sl, hp, dk⟩ : St).ob t res).1 = d') {R : List Nat} (hR : own ++ fro ++ (adO (⟨sl, hp, dk⟩ : St).ob t res).2.map (·.1) = R)
    (hb1 : b1 = b1') (hb2 : b2 = b2') (k : M (([o1, o2], R) :: acc) rest ⟨(t, d') :: sl, (o2, b2') :: (o1, b1') :: hp, dk⟩) : M acc (⟨some t, .call { callee := .value (.func f), args := args, argTypes := ts }, ty, pos, after, gd⟩ :: rest) ⟨sl, hp, dk⟩   := by
  subst hb1
  subst hb2
  exact st_call hE hM hP hok fc hm hnd hdis hnr had hout (dstOk_some (by simpa [Nat.blt_eq] using ht)) hgd ho hd' hR k
end
end Go.Proofs.Ytpmbdppppnbmnaa
