/- The judgement over code in the abstract state. Over any program. -/
import Derived.Test.YtpmbdppppnbmnaaStp
import Derived.RangeFuncNested
import Derived.RangeFuncBound
import Derived.RangeFuncCalls
import Derived.RangeFuncLeaves
import Derived.OwnWalkIn
import Derived.TacticsInMore
import Derived.OrdersIn
import Derived.LoopNIn
namespace Go.Proofs.Ytpmbdppppnbmnaa
open Go Go.RowKit
set_option linter.unusedVariables false
set_option linter.unusedSimpArgs false

/-- Where the walk is: in a call, or in a round. -/
def fen : Option Nat → Fence
  | none => Fence.wide
  | some l => Fence.wide.inRound l
/-- From s, the code ends in a state of which Q says so. -/
def VC (C : Ctx) (c : Code) (s : St) (Q : Exit → St → Prop) : Prop :=
  ∀ m a w, Rep C s a w → c.wpIn (fen C.rnd) m C.P (fun e a' w' => ∃ s', Rep C s' a' w' ∧ Q e s') a w
def noDefer (ops : Array Oper) : Bool := ops.toList.all fun o => match o.op with | .defer _ => false | _ => true
theorem wpIn_of_wp {P : Program} {o : Oper} {a : Act} {w : World} {K : Act → World → Prop} {Q : Exit → Act → World → Prop} {m : Nat} {l : Option Nat} (hd : ∀ c, o.op ≠ .defer c) (h : o.wp P a w K Q) : o.wpIn (fen l) m P a w K Q := by
  refine ⟨fun _ _ => by cases l <;> trivial, ?_⟩
  have e : o.semAt (fen l).round a.eval = execOp a.eval o := by
    cases l with
    | none => rfl
    | some l => exact Oper.semAt_some l a.eval o hd
  rw [e]
  unfold Oper.wp at h
  generalize (execOp a.eval o).run P w = r at *
  cases r with
  | ok n w' =>
    cases n with
    | value v => exact h
    | skip => exact h
    | defer d => exact h
    | enter f args => exact ⟨fun hs => (by cases l <;> cases hs), by
        cases l with
        | none => exact callsIn_wide.2 h
        | some l => exact CallsIn.inRound l (callsIn_wide.2 h)⟩
    | row r args => exact ⟨fun hs => (by cases l <;> cases hs), fun c cs _ => by
        obtain ⟨v, w', q, st⟩ := h c cs
        cases l with
        | none => exact ⟨v, w', q, stepsIn_wide.2 st⟩
        | some l => exact ⟨v, w', q, stepsIn_wide.2 st⟩⟩
    | _ => exact h.elim
  | halt x w' => cases x <;> first | exact h | exact h.elim
theorem step_in {ops : Array Oper} {P : Program} {o : Oper} {a : Act} {w : World} {K : Act → World → Prop} {Q : Exit → Act → World → Prop} {m : Nat} {l : Option Nat} (hd : ∀ c, o.op ≠ .defer c) (h : if Region.wanted o (yielded ops a.tmps) then o.wp P a w K Q else K (a.put o.dst undef) w) :
    if Region.wanted o (yielded ops a.tmps) then o.wpIn (fen l) m P a w K Q else (∀ f, o.about P w a.eval = some f → (fen l).fn f) ∧ K (a.put o.dst undef) w := by
  split
  · rename_i hw; rw [if_pos hw] at h; exact wpIn_of_wp hd h
  · rename_i hw; rw [if_neg hw] at h; exact ⟨fun _ _ => by cases l <;> trivial, h⟩
theorem noDefer_of {ops : Array Oper} (h : noDefer ops = true) {o : Oper} (ho : o ∈ ops.toList) : ∀ c, o.op ≠ .defer c := by
  intro c e
  have := List.all_eq_true.1 h o ho
  rw [e] at this
  cases this
def thenS (K : St → Prop) (Q : Exit → St → Prop) : Exit → St → Prop
  | .normal, s => K s
  | e, s => Q e s
def inS (id : Nat) (Q : Exit → St → Prop) : Exit → St → Prop
  | .exit id', s => if id' = id then Q .normal s else Q (.exit id') s
  | e, s => Q e s
/-- Less is known. -/
def Wk (C : Ctx) (s s' : St) : Prop := ∀ a w, Rep C s a w → Rep C s' a w

section
variable {C : Ctx} {s s' : St} {x y c : Code} {Q Q' : Exit → St → Prop}
theorem VC.mono (h : VC C c s Q) (hq : ∀ e s, Q e s → Q' e s) : VC C c s Q' :=
  fun m a w hr => wpIn_mono (h m a w hr) (fun e a w ⟨s', h1, h2⟩ => ⟨s', h1, hq _ _ h2⟩)
theorem VC.weak (h : VC C c s' Q) (hw : Wk C s s') : VC C c s Q := fun m a w hr => h m a w (hw a w hr)
theorem Wk.refl (C : Ctx) (s : St) : Wk C s s := fun _ _ h => h
theorem Wk.trans {s'' : St} (h : Wk C s s') (h' : Wk C s' s'') : Wk C s s'' := fun a w hr => h' a w (h a w hr)
theorem vc_seq (h : ∀ K : St → Prop, (∀ s', VC C y s' Q → K s') → VC C x s (thenS K Q)) : VC C (.seq x y) s Q :=
  fun m a w hr => wpIn_seq (wpIn_mono (h (fun s' => VC C y s' Q) (fun _ h => h) m a w hr) (fun e a w ⟨s', h1, h2⟩ => by
    cases e <;> first | exact h2 m a w h1 | exact ⟨s', h1, h2⟩))
theorem ev_bool {G : Nat → Option D} (hG : C.G = G) {a : Act} {w : World} (hr : Rep C s a w) {o : Operand} {b : Bool} (hc : frc (evg G s o) = some (.bool b)) : a.eval o = .bool b := by
  obtain ⟨_, _, ρ, S, Φ, h1, h2⟩ := hr
  have := ev_rv h1 h2 o
  rw [ev_g, hG, frc_ok hc] at this
  exact inv_bool this
theorem vc_cond {Ti : Nat → TI} {G : Nat → Option D} {n : Nat} (hE : Env C Ti G n) {o : Operand} {b : Bool} (hc : frc (evg G s o) = some (.bool b)) (ht : b = true → VC C x s Q) (hf : b = false → VC C y s Q) : VC C (.cond o x y) s Q :=
  fun m a w hr => wpIn_cond_split (ev_bool hE.g hr hc) (fun h => ht h m a w hr) (fun h => hf h m a w hr)
theorem vc_true {Ti : Nat → TI} {G : Nat → Option D} {n : Nat} (hE : Env C Ti G n) {o : Operand} {b : Bool} (hc : frc (evg G s o) = some (.bool b)) (hb : b = true) (ht : VC C x s Q) : VC C (.cond o x y) s Q :=
  vc_cond hE hc (fun _ => ht) (fun h => by rw [hb] at h; cases h)
theorem vc_false {Ti : Nat → TI} {G : Nat → Option D} {n : Nat} (hE : Env C Ti G n) {o : Operand} {b : Bool} (hc : frc (evg G s o) = some (.bool b)) (hb : b = false) (hf : VC C y s Q) : VC C (.cond o x y) s Q :=
  vc_cond hE hc (fun h => by rw [hb] at h; cases h) (fun _ => hf)
theorem vc_skip (h : Q .normal s) : VC C .skip s Q := fun m a w hr => wpIn_skip ⟨s, hr, h⟩
theorem vc_exit {id : Nat} (h : Q (.exit id) s) : VC C (.exit id) s Q := fun m a w hr => wpIn_exit ⟨s, hr, h⟩
theorem vc_ret (h : Q .ret s) : VC C .ret s Q := fun m a w hr => wpIn_ret ⟨s, hr, h⟩
theorem vc_block {id : Nat} (h : VC C c s (inS id Q)) : VC C (.block id c) s Q :=
  fun m a w hr => wpIn_block (wpIn_mono (h m a w hr) (fun e a w ⟨s', h1, h2⟩ => by
    cases e with
    | exit id' =>
      simp only [Exit.inBlock]
      simp only [inS] at h2
      split
      · rename_i hid; rw [if_pos hid] at h2; exact ⟨s', h1, h2⟩
      · rename_i hid; rw [if_neg hid] at h2; exact ⟨s', h1, h2⟩
    | _ => exact ⟨s', h1, h2⟩))
theorem vc_region {id : Nat} {ops : Array Oper} (hnd : noDefer ops = true) (h : ∀ M, Stp C ops M → (∀ acc rest s s', Wk C s s' → M acc rest s' → M acc rest s) → (∀ acc s', Q .normal s' → M acc [] s') → M [] ops.toList s) : VC C (.region id ops false) s Q := by
  intro m a w hr
  refine wpIn_region_list ?_
  refine h (fun _ rest s => (∀ o ∈ rest, ∀ c, o.op ≠ .defer c) → ∀ a w, Rep C s a w → wpListIn (fen C.rnd) m C.P ops (fun e a' w' => ∃ s', Rep C s' a' w' ∧ Q e s') rest a w) ⟨?_⟩ (fun acc rest s s' hW h hnd a w hr => h hnd a w (hW a w hr)) (fun acc s' hq _ a w hr => ⟨s', hr, hq⟩) (fun o ho => noDefer_of hnd ho) a w hr
  intro acc o rest s d obs R he hk hnd' a w hr
  have h1 := he s (fun _ _ => rfl) (fun _ _ => rfl) (wpListIn (fen C.rnd) m C.P ops (fun e a' w' => ∃ s', Rep C s' a' w' ∧ Q e s') rest) (fun e a' w' => ∃ s', Rep C s' a' w' ∧ Q e s') a w hr (hk (fun o ho => hnd' o (List.mem_cons_of_mem _ ho)))
  exact step_in (hnd' o (by simp)) h1

/-! Loops. -/
theorem vc_loop {α : Type} (I : α → St) (J : α → Prop) (μ : α → Nat) (x0 : α) (h0 : Wk C s (I x0)) (hj : J x0)
    (round : ∀ x, J x → ∀ K : St → Prop, (∀ s' x', Wk C s' (I x') → J x' → μ x' < μ x → K s') → VC C c (I x) (thenS K Q)) : VC C (.loop c) s Q := by
  intro m a w hr
  classical
  have hex : ∀ a w, (∃ x, J x ∧ Rep C (I x) a w) → ∃ n x, J x ∧ Rep C (I x) a w ∧ μ x = n := fun a w ⟨x, h1, h2⟩ => ⟨μ x, x, h1, h2, rfl⟩
  have hmin : ∀ (p : Nat → Prop), (∃ n, p n) → ∃ n, p n ∧ ∀ m, p m → n ≤ m := by
    intro p ⟨n, hn⟩
    induction n using Nat.strongRecOn with
    | _ n ih =>
      by_cases h : ∃ m, m < n ∧ p m
      · obtain ⟨m, h1, h2⟩ := h; exact ih m h1 h2
      · exact ⟨n, hn, fun m hm => Nat.le_of_not_lt fun h' => h ⟨m, h', hm⟩⟩
  let rk : Act → World → Nat := fun a w => if h : ∃ x, J x ∧ Rep C (I x) a w then Classical.choose (hmin _ (hex a w h)) else 0
  have hrk : ∀ a w (h : ∃ x, J x ∧ Rep C (I x) a w), (∃ x, J x ∧ Rep C (I x) a w ∧ μ x = rk a w) ∧ ∀ x, J x → Rep C (I x) a w → rk a w ≤ μ x := by
    intro a w h
    have e : rk a w = Classical.choose (hmin _ (hex a w h)) := dif_pos h
    rw [e]
    obtain ⟨h1, h2⟩ := Classical.choose_spec (hmin _ (hex a w h))
    exact ⟨h1, fun x hx hr => h2 _ ⟨x, hx, hr, rfl⟩⟩
  refine wpIn_loop (fun a w => ∃ x, J x ∧ Rep C (I x) a w) rk ⟨x0, hj, h0 a w hr⟩ ?_
  intro a w hI
  obtain ⟨⟨x, hx, hrx, hμ⟩, _⟩ := hrk a w hI
  refine wpIn_mono (round x hx (fun s' => ∃ x', Wk C s' (I x') ∧ J x' ∧ μ x' < μ x) (fun s' x' h1 h2 h3 => ⟨x', h1, h2, h3⟩) m a w hrx) ?_
  rintro e a' w' ⟨s', h1, h2⟩
  cases e with
  | normal =>
    obtain ⟨x', k1, k2, k3⟩ := h2
    have hr' := k1 a' w' h1
    exact ⟨⟨x', k2, hr'⟩, Nat.lt_of_le_of_lt ((hrk a' w' ⟨x', k2, hr'⟩).2 x' k2 hr') (hμ ▸ k3)⟩
  | _ => exact ⟨s', h1, h2⟩
end

/-- Where roads come together: what comes behind is walked once. -/
theorem vc_join {C : Ctx} {y : Code} {Q : Exit → St → Prop} {K : St → Prop} (hK : ∀ s', VC C y s' Q → K s') {α : Type} (J : α → Prop) (I : α → St) {G : Prop} (hj : ∀ x, J x → VC C y (I x) Q) (k : (∀ x, J x → ∀ s', Wk C s' (I x) → K s') → G) : G :=
  k fun x hx s' hw => hK s' ((hj x hx).weak hw)

/-! The objects that a value names. -/
mutual
def D.nm : D → List Nat
  | .ptr o _ _ => [o]
  | .sl o _ _ _ => [o]
  | .ros _ _ cs => nmL cs
  | .rop _ cs => nmL cs
  | .agg cs => nmL cs
  | .tup cs => nmL cs
  | .owns _ _ cs => nmL cs
  | .ownp cs => nmL cs
  | .iff _ d => d.nm
  | _ => []
def nmL : List D → List Nat
  | [] => []
  | d :: r => d.nm ++ nmL r
end
theorem nm_get : ∀ {cs : List D} {i : Nat} {c : D}, cs[i]? = some c → ∀ o ∈ c.nm, o ∈ nmL cs
  | [], i, c, h => by simp at h
  | d :: r, 0, c, h => by simp at h; subst h; intro o ho; simp [nmL, ho]
  | d :: r, i + 1, c, h => by intro o ho; have := nm_get (cs := r) (by simpa using h) o ho; simp [nmL, this]
theorem nmL_append (a b : List D) : nmL (a ++ b) = nmL a ++ nmL b := by
  induction a with
  | nil => rfl
  | cons d r ih => simp [nmL, ih]
theorem nmL_map {α : Type} (f : α → D) (h : ∀ x, (f x).nm = []) (l : List α) : nmL (l.map f) = [] := by
  induction l with
  | nil => rfl
  | cons x r ih => simp [nmL, ih, h]
theorem nm_pf {d : D} (h : d.pf0 = true) : d.nm = [] := by cases d <;> first | rfl | (cases h; done)
theorem nmL_pf {cs : List D} (h : cs.all D.pf0 = true) : nmL cs = [] := by
  induction cs with
  | nil => rfl
  | cons d r ih =>
    simp only [List.all_cons, Bool.and_eq_true] at h
    have : d.nm = [] := by cases d <;> first | rfl | (cases h.1; done)
    simp [nmL, this, ih h.2]
theorem RV.names {w : World} {S : Nat → Prop} {ρ : Nat → Pl} {H H' : Nat → Sh} {d : D} {v : Value} {F : List Nat} (h : RV w S ρ H d v F) : (∀ o ∈ d.nm, H' o = H o) → RV w S ρ H' d v F := by
  induction h with
  | bot v => intro _; exact .bot v
  | bool b => intro _; exact .bool b
  | int k n => intro _; exact .int k n
  | u8 x => intro _; exact .u8 x
  | u32 x => intro _; exact .u32 x
  | str l => intro _; exact .str l
  | nilP => intro _; exact .nilP
  | nilS => intro _; exact .nilS
  | nilF => intro _; exact .nilF
  | fn f => intro _; exact .fn f
  | ptr o g off v h1 hg h => intro e; have := e o (by simp [D.nm]); exact .ptr o g off v h1 (by rw [this]; exact hg) (by rw [this]; exact h)
  | sl o g off len v h1 hg h => intro e; have := e o (by simp [D.nm]); exact .sl o g off len v h1 (by rw [this]; exact hg) (by rw [this]; exact h)
  | rob l A n cap h => intro _; exact .rob l A n cap h
  | ros s n cs A cap b off us hl hn hm hA hc hr ih => intro e; exact .ros s n cs A cap b off us hl hn hm hA hc (fun i c p => ih i c p fun o ho => e o (by simp only [D.nm]; exact nm_get p o ho))
  | rop off cs b base us hb hc hr ih => intro e; exact .rop off cs b base us hb hc (fun i c p => ih i c p fun o ho => e o (by simp only [D.nm]; exact nm_get p o ho))
  | rof s n f A cap b off us hn hm hp hA hc hr ih => intro _; exact .rof s n f A cap b off us hn hm hp hA hc (fun i j hi hj => ih i j hi hj (by rw [nm_pf (hp i j hi hj)]; simp))
  | rpf k j s n f b base us hb hp hc hr ih => intro _; exact .rpf k j s n f b base us hb hp hc (fun i j hi hj => ih i j hi hj (by rw [nm_pf (hp i j hi hj)]; simp))
  | rpb k l b base hb hc => intro _; exact .rpb k l b base hb hc
  | aggb l => intro _; exact .aggb l
  | agg cs vs Fs F hv hf hF hr ih => intro e; exact .agg cs vs Fs F hv hf hF (fun i c u f h1 h2 h3 => ih i c u f h1 h2 h3 fun o ho => e o (by simp only [D.nm]; exact nm_get h1 o ho))
  | tup cs vs Fs F hv hf hF hr ih => intro e; exact .tup cs vs Fs F hv hf hF (fun i c u f h1 h2 h3 => ih i c u f h1 h2 h3 fun o ho => e o (by simp only [D.nm]; exact nm_get h1 o ho))
  | iff c d v h h0 ih => intro e; exact .iff c d v (fun hc => ih hc fun o ho => e o (by simp only [D.nm]; exact ho)) h0
  | chunk f l n b1 b2 A m cap h1 h2 h hc1 hc2 => intro _; exact .chunk f l n b1 b2 A m cap h1 h2 h hc1 hc2
  | ownb l A n cap F cur off hl h hc => intro _; exact .ownb l A n cap F cur off hl h hc
  | owns s n cs A cap F F0 Fs cur off hl h hf hF hr ih => intro e; exact .owns s n cs A cap F F0 Fs cur off hl h hf hF (fun i c u f h1 h2 h3 => ih i c u f h1 h2 h3 fun o ho => e o (by simp only [D.nm]; exact nm_get h1 o ho))
  | ownp cs b base cur E fz F Fs hh hz hs hf hF hr ih => intro e; exact .ownp cs b base cur E fz F Fs hh hz hs hf hF (fun i c u f h1 h2 h3 => ih i c u f h1 h2 h3 fun o ho => e o (by simp only [D.nm]; exact nm_get h1 o ho))
def ctNm : Option Cont → List Nat
  | some (.cells cs) => nmL cs
  | _ => []
/-- What a state is to keep, of slots and of objects. -/
def slOk (s : St) (ns : List Nat) : List (Nat × D) → Prop
  | [] => True
  | (t, d) :: r => (s.slot t = d ∧ ∀ o ∈ d.nm, o ∈ ns) ∧ slOk s ns r
def hpOk (s : St) (ns : List Nat) : List (Nat × Ob) → Prop
  | [] => True
  | (o, ob) :: r => (s.ob o = ob ∧ ∀ x ∈ ctNm ob.ct, x ∈ ns) ∧ hpOk s ns r
theorem slOk_get {s : St} {ns : List Nat} : ∀ {l : List (Nat × D)}, slOk s ns l → ∀ t, look .bot l t = .bot ∨ (s.slot t = look .bot l t ∧ ∀ o ∈ (look .bot l t).nm, o ∈ ns)
  | [], _, t => .inl rfl
  | (u, d) :: r, h, t => by
    simp only [look]
    split
    · rename_i e; subst e; exact .inr h.1
    · exact slOk_get h.2 t
theorem hpOk_get {s : St} {ns : List Nat} : ∀ {l : List (Nat × Ob)}, hpOk s ns l → ∀ o, o ∈ l.map (·.1) → s.ob o = look .no l o ∧ ∀ x ∈ ctNm (look .no l o).ct, x ∈ ns
  | [], _, o, ho => by simp at ho
  | (u, b) :: r, h, o, ho => by
    simp only [look]
    split
    · rename_i e; subst e; exact h.1
    · rename_i e
      refine hpOk_get h.2 o ?_
      simp only [List.map_cons, List.mem_cons] at ho
      exact ho.resolve_left (fun e' => e e'.symm)
theorem look_none : ∀ (l : List (Nat × Ob)) (o : Nat), o ∉ l.map (·.1) → look .no l o = .no
  | [], o, _ => rfl
  | (u, b) :: r, o, h => by
    simp only [List.map_cons, List.mem_cons, not_or] at h
    simp only [look]
    rw [if_neg (fun e => h.1 e.symm)]
    exact look_none r o h.2
/-- LESS IS KEPT. -/
theorem wk_ofk {C : Ctx} {s : St} {sl' : List (Nat × D)} {hp' : List (Nat × Ob)} {dk : List Nat} (hdk : dk = s.dk) (hs : slOk s (hp'.map (·.1)) sl') (hh : hpOk s (hp'.map (·.1)) hp') (hrc : ∀ d v, C.keep d v → ∀ o ∈ d.nm, o ∈ hp'.map (·.1)) : Wk C s ⟨sl', hp', dk⟩ := by
  subst hdk
  intro a w hr
  obtain ⟨h1, h2, ρ, S, Φ, h3, h4⟩ := hr
  have hin : ∀ o, o ∈ hp'.map (·.1) → (⟨sl', hp', s.dk⟩ : St).ob o = s.ob o := fun o ho => (hpOk_get hh o ho).1.symm
  have hsh : ∀ o, o ∈ hp'.map (·.1) → (⟨sl', hp', s.dk⟩ : St).sh o = s.sh o := fun o ho => by unfold St.sh; rw [hin o ho]
  have hlive : ∀ o c, ((⟨sl', hp', s.dk⟩ : St).ob o).ct = some c → o ∈ hp'.map (·.1) ∧ (s.ob o).ct = some c := fun o c hc => by
    by_cases ho : o ∈ hp'.map (·.1)
    · exact ⟨ho, by rw [← hin o ho]; exact hc⟩
    · have : (⟨sl', hp', s.dk⟩ : St).ob o = .no := look_none _ _ ho
      rw [this] at hc
      cases hc
  refine ⟨h1, h2, ρ, S, Φ, ⟨h3.os, h3.tape, h3.output, h3.size, h3.szs, h3.fr, h3.s0, h3.s1, h3.sc, fun g cs hg => (h3.gl g cs hg).names (fun o ho => ?_), fun o c hc => ?_, fun d v hv => (h3.rv d v hv).names fun o ho => hsh o (hrc d v hv o ho), h3.dk, h3.dkn, fun o c hc => h3.own o c (hlive o c hc).2, fun o o' c c' hc hc' => h3.dis o o' c c' (hlive o c hc).2 (hlive o' c' hc').2⟩, fun t => ?_⟩
  · have : cs.nm = [] := nm_pf (C.gp g cs hg)
    rw [this] at ho
    cases ho
  · obtain ⟨ho, hc'⟩ := hlive o c hc
    obtain ⟨q1, q2⟩ := h3.ob o c hc'
    rw [hsh o ho]
    refine ⟨q1, ?_⟩
    rcases q2 with q2 | ⟨cur, E, fz, Fs, k1, k2, k3, k4, k5, k6⟩
    · exact .inl q2
    · refine .inr ⟨cur, E, fz, Fs, k1, k2, k3, k4, k5, ?_⟩
      cases c with
      | bytes l => exact k6
      | cells cs =>
        refine ⟨k6.1, fun i c u f p1 p2 p3 => (k6.2 i c u f p1 p2 p3).names fun x hx => hsh x ?_⟩
        have := (hpOk_get hh o ho).2 x
        have e : look .no hp' o = s.ob o := hin o ho
        rw [e, hc'] at this
        exact this (nm_get p1 x hx)
  · rcases slOk_get hs t with h | ⟨h, hn⟩
    · show RV w S ρ _ (look .bot sl' t) _ []
      rw [h]
      exact .bot _
    · show RV w S ρ _ (look .bot sl' t) _ []
      rw [← h]
      refine (h4 t).names fun o ho => hsh o (hn o ?_)
      rw [← h]
      exact ho
theorem wk_of {C : Ctx} {s : St} {sl' : List (Nat × D)} {hp' : List (Nat × Ob)} {dk : List Nat} (hdk : dk = s.dk) (hs : slOk s (hp'.map (·.1)) sl') (hh : hpOk s (hp'.map (·.1)) hp') (hrc : ∀ d v, ¬ C.keep d v) : Wk C s ⟨sl', hp', dk⟩ :=
  wk_ofk hdk hs hh (fun d v h => absurd h (hrc d v))
theorem wk_of9 {C : Ctx} {s : St} {sl' : List (Nat × D)} {hp' : List (Nat × Ob)} {dk : List Nat} (hdk : dk = s.dk) (hs : slOk s (hp'.map (·.1)) sl') (hh : hpOk s (hp'.map (·.1)) hp') (hrc : ∀ d v, C.keep d v → d = .ptr 900 1 0) (h9 : 900 ∈ hp'.map (·.1)) : Wk C s ⟨sl', hp', dk⟩ :=
  wk_ofk hdk hs hh (fun d v h o ho => by
    rw [hrc d v h] at ho
    obtain rfl : o = 900 := by simpa [D.nm] using ho
    exact h9)
end Go.Proofs.Ytpmbdppppnbmnaa
