/- A region that draws its order: where what conflicts is bound, each order leaves what the text's order leaves. Over any program. -/
import Derived.Test.YtpmbdppppnbmnaaVc
namespace Go.Proofs.Ytpmbdppppnbmnaa
open Go Go.RowKit
set_option linter.unusedVariables false
set_option linter.unusedSimpArgs false

structure Rec where
  o : Oper
  d : D
  obs : List (Nat × Ob)
  R : List Nat
def stepR (s : St) (r : Rec) : St := (s.lays r.obs).puto r.o.dst r.d
def Rec.nm (r : Rec) : List Nat := r.obs.map (·.1)
/-- The state behind those operations of the first k that are in L, in the text's order. -/
def sL (rs : List Rec) (s0 : St) (L : Nat → Bool) : Nat → St
  | 0 => s0
  | k + 1 => match rs[k]? with
    | some r => if L k then stepR (sL rs s0 L k) r else sL rs s0 L k
    | none => sL rs s0 L k
inductive Trc (C : Ctx) (ops : Array Oper) (s0 : St) : List (List Nat × List Nat) → List Oper → St → Prop
  | nil : Trc C ops s0 [] ops.toList s0
  | cons (acc : List (List Nat × List Nat)) (o : Oper) (rest : List Oper) (s : St) (d : D) (obs : List (Nat × Ob)) (R : List Nat) (h : Trc C ops s0 acc (o :: rest) s) (he : EffG C ops o s d obs R) :
      Trc C ops s0 ((obs.map (·.1), R) :: acc) rest ((s.lays obs).puto o.dst d)

section
variable {C : Ctx} {ops : Array Oper} {s0 s : St} {rs : List Rec} {L L' : Nat → Bool}
theorem slot_step (s : St) (r : Rec) (t : Nat) : (stepR s r).slot t = if r.o.dst = some t then r.d else s.slot t := by
  unfold stepR
  rcases h : r.o.dst with _ | x
  · show (s.lays r.obs).slot t = _
    rw [lays_slot]; simp
  · show ((s.lays r.obs).put x r.d).slot t = _
    rw [St.slot_put, lays_slot]
    by_cases hx : t = x
    · subst hx; simp
    · rw [if_neg hx, if_neg (fun e => hx (by injection e with e; exact e.symm))]
theorem puto_ob (s : St) (dst : Option Nat) (d : D) (x : Nat) : (s.puto dst d).ob x = s.ob x := by cases dst <;> rfl
theorem puto_dk (s : St) (dst : Option Nat) (d : D) : (s.puto dst d).dk = s.dk := by cases dst <;> rfl
theorem ob_step (s : St) (r : Rec) (x : Nat) (h : x ∉ r.nm) : (stepR s r).ob x = s.ob x := by
  unfold stepR
  rw [puto_ob]
  exact lays_ob s _ x (fun p hp e => h (List.mem_map.2 ⟨p, hp, e⟩))
theorem lays_in (obs : List (Nat × Ob)) (x : Nat) (h : x ∈ obs.map (·.1)) : ∀ s s' : St, (s.lays obs).ob x = (s'.lays obs).ob x := by
  induction obs with
  | nil => cases h
  | cons p r ih =>
    obtain ⟨o, b⟩ := p
    intro s s'
    show ((s.lay o b).lays r).ob x = ((s'.lay o b).lays r).ob x
    by_cases hr : x ∈ r.map (·.1)
    · exact ih hr _ _
    · have e : x = o := by simpa [hr] using h
      subst e
      have hn : ∀ p ∈ r, p.1 ≠ x := fun p hp e => hr (List.mem_map.2 ⟨p, hp, e⟩)
      rw [lays_ob _ _ _ hn, lays_ob _ _ _ hn, St.ob_lay, St.ob_lay, if_pos rfl, if_pos rfl]
theorem ob_in (s s' : St) (r : Rec) (x : Nat) (h : x ∈ r.nm) : (stepR s r).ob x = (stepR s' r).ob x := by
  unfold stepR
  rw [puto_ob, puto_ob]
  exact lays_in _ _ h _ _
theorem dk_step (s : St) (r : Rec) : (stepR s r).dk = s.dk := by unfold stepR; rw [puto_dk, lays_dk]
theorem sL_slot (t : Nat) : ∀ k, (∀ i r, i < k → rs[i]? = some r → r.o.dst = some t → L i = L' i) → (sL rs s0 L k).slot t = (sL rs s0 L' k).slot t
  | 0, _ => rfl
  | k + 1, h => by
    have ih := sL_slot t k (fun i r hi => h i r (by omega))
    simp only [sL]
    split
    · rename_i r hr
      by_cases hd : r.o.dst = some t
      · have e := h k r (by omega) hr hd
        rw [e]
        split
        · rw [slot_step, slot_step, if_pos hd, if_pos hd]
        · exact ih
      · split <;> split
        · rw [slot_step, slot_step, if_neg hd, if_neg hd]; exact ih
        · rw [slot_step, if_neg hd]; exact ih
        · rw [slot_step, if_neg hd]; exact ih
        · exact ih
    · exact ih
theorem sL_ob (x : Nat) : ∀ k, (∀ i r, i < k → rs[i]? = some r → x ∈ r.nm → L i = L' i) → (sL rs s0 L k).ob x = (sL rs s0 L' k).ob x
  | 0, _ => rfl
  | k + 1, h => by
    have ih := sL_ob x k (fun i r hi => h i r (by omega))
    simp only [sL]
    split
    · rename_i r hr
      by_cases hd : x ∈ r.nm
      · have e := h k r (by omega) hr hd
        rw [e]
        split
        · exact ob_in _ _ _ _ hd
        · exact ih
      · split <;> split
        · rw [ob_step _ _ _ hd, ob_step _ _ _ hd]; exact ih
        · rw [ob_step _ _ _ hd]; exact ih
        · rw [ob_step _ _ _ hd]; exact ih
        · exact ih
    · exact ih
theorem sL_dk : ∀ k, (sL rs s0 L k).dk = s0.dk
  | 0 => rfl
  | k + 1 => by
    simp only [sL]
    split
    · split
      · rw [dk_step]; exact sL_dk k
      · exact sL_dk k
    · exact sL_dk k
/-- Beyond j nothing is in L. -/
theorem sL_stop (j : Nat) (h : ∀ i, j ≤ i → L i = false) : ∀ k, sL rs s0 L (j + k) = sL rs s0 L j
  | 0 => rfl
  | k + 1 => by
    rw [← Nat.add_assoc]
    simp only [sL]
    rw [h (j + k) (by omega)]
    split <;> exact sL_stop j h k
theorem sL_same : ∀ k, (∀ i, i < k → L i = L' i) → sL rs s0 L k = sL rs s0 L' k
  | 0, _ => rfl
  | k + 1, h => by
    simp only [sL]
    rw [sL_same k (fun i hi => h i (by omega)), h k (by omega)]
/-- More operations behind do no harm. -/
theorem sL_app (rs' : List Rec) : ∀ k, k ≤ rs.length → sL (rs ++ rs') s0 L k = sL rs s0 L k
  | 0, _ => rfl
  | k + 1, h => by
    simp only [sL]
    rw [List.getElem?_append_left (by omega), sL_app rs' k (by omega)]
def all1 : Nat → Bool := fun _ => true
theorem trc_recs {acc : List (List Nat × List Nat)} {rest : List Oper} {s : St} (h : Trc C ops s0 acc rest s) :
    ∃ rs : List Rec, rs.map (·.o) ++ rest = ops.toList ∧ acc = (rs.map fun r => (r.nm, r.R)).reverse ∧ s = sL rs s0 all1 rs.length ∧ ∀ i r, rs[i]? = some r → EffG C ops r.o (sL rs s0 all1 i) r.d r.obs r.R := by
  induction h with
  | nil => exact ⟨[], rfl, rfl, rfl, fun i r h => by simp at h⟩
  | cons acc o rest s d obs R h he ih =>
    obtain ⟨rs, h1, h2, h3, h4⟩ := ih
    refine ⟨rs ++ [⟨o, d, obs, R⟩], by rw [← h1]; simp, by rw [h2]; simp [Rec.nm], ?_, fun i r hr => ?_⟩
    · rw [List.length_append]
      show _ = sL _ _ _ (rs.length + 1)
      simp only [sL]
      rw [sL_app _ _ (Nat.le_refl _), ← h3]
      simp [all1, stepR]
    · rcases Nat.lt_trichotomy i rs.length with hi | hi | hi
      · rw [List.getElem?_append_left hi] at hr
        rw [sL_app _ _ (by omega)]
        exact h4 i r hr
      · subst hi
        rw [List.getElem?_append_right (Nat.le_refl _)] at hr
        simp at hr
        subst hr
        rw [sL_app _ _ (Nat.le_refl _), ← h3]
        exact he
      · rw [List.getElem?_eq_none (by simp; omega)] at hr
        cases hr
theorem Rep.ext {C : Ctx} {s s' : St} {a : Act} {w : World} (h : Rep C s a w) (h1 : ∀ t, s'.slot t = s.slot t) (h2 : ∀ o, s'.ob o = s.ob o) (h3 : s'.dk = s.dk) : Rep C s' a w := by
  obtain ⟨k1, k2, ρ, S, Φ, k3, k4⟩ := h
  have es : s'.sh = s.sh := by funext o; unfold St.sh; rw [h2]
  exact ⟨by rw [h3]; exact k1, k2, ρ, S, Φ, k3.congr h2 h3, fun t => by rw [h1, es]; exact k4 t⟩
end

/-! The check. -/
structure Fp where
  dst : Option Nat
  T : List Nat
  W : List Nat
  R : List Nat
def clash (x y : Fp) : Bool :=
  (match x.dst with | some d => y.T.contains d || y.dst == some d | none => false) || (match y.dst with | some d => x.T.contains d | none => false) ||
    x.W.any (fun o => y.R.contains o || y.W.contains o) || y.W.any (fun o => x.R.contains o)
def ancB (A : List Nat) (es : List Edge) : Nat := es.foldl (fun m e => if Region.binds .any e then m ||| (1 <<< e.on) ||| A.getD e.on 0 else m) 0
def ancL : List Oper → List Nat → List Nat
  | [], A => A
  | o :: r, A => ancL r (A ++ [ancB A o.after.toList])
def fpOf (ops : Array Oper) (o : Oper) (p : List Nat × List Nat) : Fp := ⟨o.dst, tOf ops o, p.1, p.2⟩
def fps (ops : Array Oper) : List Oper → List (List Nat × List Nat) → List Fp
  | o :: os, p :: ps => fpOf ops o p :: fps ops os ps
  | _, _ => []
/-- Every pair of the list: whichever conflict is bound. -/
def chkRow (m : Nat) (y : Fp) : Nat → List Fp → Bool
  | _, [] => true
  | i, x :: r => (!clash x y || Nat.testBit m i) && chkRow m y (i + 1) r
def chkAll (A : List Nat) : List Fp → List Oper → List Fp → Nat → Bool
  | done, o :: os, y :: ys, j => (o.after.toList.all fun e => !Region.binds .any e || Nat.blt e.on j) && Nat.beq (A.getD j 0) (ancB A o.after.toList) && chkRow (A.getD j 0) y 0 done && chkAll A (done ++ [y]) os ys (j + 1)
  | _, [], [], _ => true
  | _, _, _, _ => false
def chk (ops : Array Oper) (acc : List (List Nat × List Nat)) : Bool := chkAll (ancL ops.toList []) [] ops.toList (fps ops ops.toList acc.reverse) 0

structure Good (ops : Array Oper) (F : List Fp) : Prop where
  len : F.length = ops.size
  edge : ∀ j o, ops[j]? = some o → ∀ e ∈ o.after.toList, Region.binds .any e = true → e.on < j
  ord : ∀ i j x y o, i < j → F[i]? = some x → F[j]? = some y → ops[j]? = some o → clash x y = true → ∀ L : Nat → Bool, (∀ k o, L k = true → ops[k]? = some o → ∀ e ∈ o.after.toList, Region.binds .any e = true → L e.on = true) → (∀ e ∈ o.after.toList, Region.binds .any e = true → L e.on = true) → L i = true

theorem chkRow_ok {m : Nat} {y : Fp} : ∀ {l : List Fp} {i : Nat}, chkRow m y i l = true → ∀ k x, l[k]? = some x → clash x y = true → Nat.testBit m (i + k) = true
  | [], i, _, k, x, hx, _ => by simp at hx
  | z :: r, i, h, 0, x, hx, hc => by
    simp only [List.getElem?_cons_zero, Option.some.injEq] at hx
    subst hx
    simp only [chkRow, Bool.and_eq_true, Bool.or_eq_true, hc, Bool.not_true, Bool.false_eq_true, false_or] at h
    exact h.1
  | z :: r, i, h, k + 1, x, hx, hc => by
    simp only [chkRow, Bool.and_eq_true] at h
    have := chkRow_ok h.2 k x (by simpa using hx) hc
    rw [show i + 1 + k = i + (k + 1) by omega] at this
    exact this
theorem chkAll_ok {A : List Nat} : ∀ {os : List Oper} {done ys : List Fp} {j : Nat}, chkAll A done os ys j = true → done.length = j → os.length = ys.length ∧
    ∀ k o y, os[k]? = some o → ys[k]? = some y → (∀ e ∈ o.after.toList, Region.binds .any e = true → e.on < j + k) ∧ A.getD (j + k) 0 = ancB A o.after.toList ∧ ∀ i x, i < j + k → (done ++ ys)[i]? = some x → clash x y = true → Nat.testBit (A.getD (j + k) 0) i = true
  | [], done, [], j, _, _ => ⟨rfl, fun k o y h => by simp at h⟩
  | [], done, y :: ys, j, h, _ => by simp [chkAll] at h
  | o :: os, done, [], j, h, _ => by simp [chkAll] at h
  | o :: os, done, y :: ys, j, h, hd => by
    simp only [chkAll, Bool.and_eq_true] at h
    obtain ⟨⟨⟨h1, h2⟩, h3⟩, h4⟩ := h
    obtain ⟨k1, k2⟩ := chkAll_ok h4 (by simp [hd])
    refine ⟨by simp [k1], fun k o' y' ho hy => ?_⟩
    rcases k with _ | k
    · simp only [List.getElem?_cons_zero, Option.some.injEq] at ho hy
      subst ho; subst hy
      refine ⟨fun e he hb => ?_, Nat.eq_of_beq_eq_true h2, fun i x hi hx hc => ?_⟩
      · have := List.all_eq_true.1 h1 e he
        simpa [hb, Nat.blt_eq] using this
      · rw [List.getElem?_append_left (by omega)] at hx
        have := chkRow_ok h3 i x hx hc
        simpa using this
    · have := k2 k o' y' (by simpa using ho) (by simpa using hy)
      rw [show j + 1 + k = j + (k + 1) by omega, List.append_assoc] at this
      exact this
theorem ancB_ok {A : List Nat} (es : List Edge) (x : Nat) (h : Nat.testBit (ancB A es) x = true) : ∃ e ∈ es, Region.binds .any e = true ∧ (x = e.on ∨ Nat.testBit (A.getD e.on 0) x = true) := by
  have key : ∀ (es : List Edge) (m : Nat), Nat.testBit (es.foldl (fun m e => if Region.binds .any e then m ||| (1 <<< e.on) ||| A.getD e.on 0 else m) m) x = true → Nat.testBit m x = true ∨ ∃ e ∈ es, Region.binds .any e = true ∧ (x = e.on ∨ Nat.testBit (A.getD e.on 0) x = true) := by
    intro es
    induction es with
    | nil => intro m h; exact .inl h
    | cons e r ih =>
      intro m h
      rcases ih _ h with h1 | ⟨e', h1, h2⟩
      · dsimp only at h1
        split at h1
        · rename_i hb
          rw [Nat.testBit_or, Nat.testBit_or] at h1
          simp only [Bool.or_eq_true] at h1
          rcases h1 with (h1 | h1) | h1
          · exact .inl h1
          · refine .inr ⟨e, by simp, hb, .inl ?_⟩
            rw [Nat.one_shiftLeft, Nat.testBit_two_pow] at h1
            exact (of_decide_eq_true h1).symm
          · exact .inr ⟨e, by simp, hb, .inr h1⟩
        · exact .inl h1
      · exact .inr ⟨e', by simp [h1], h2⟩
  rcases key es 0 h with h1 | h1
  · simp at h1
  · exact h1
theorem fps_get (ops : Array Oper) : ∀ (os : List Oper) (ps : List (List Nat × List Nat)) (i : Nat) (o : Oper) (p : List Nat × List Nat), os[i]? = some o → ps[i]? = some p → (fps ops os ps)[i]? = some (fpOf ops o p)
  | [], _, i, o, p, h, _ => by simp at h
  | _ :: _, [], i, o, p, _, h => by simp at h
  | o' :: os, p' :: ps, 0, o, p, h1, h2 => by
    simp at h1 h2; subst h1; subst h2; rfl
  | o' :: os, p' :: ps, i + 1, o, p, h1, h2 => by
    simp only [fps, List.getElem?_cons_succ]
    exact fps_get ops os ps i o p (by simpa using h1) (by simpa using h2)
theorem chk_good {ops : Array Oper} {acc : List (List Nat × List Nat)} (h : chk ops acc = true) : Good ops (fps ops ops.toList acc.reverse) := by
  obtain ⟨h1, h2⟩ := chkAll_ok h rfl
  have hget : ∀ j o, ops[j]? = some o → ops.toList[j]? = some o := fun j o ho => by rw [Array.getElem?_toList]; exact ho
  have hy : ∀ j o, ops[j]? = some o → ∃ y, (fps ops ops.toList acc.reverse)[j]? = some y := fun j o ho => by
    have : j < ops.toList.length := (List.getElem?_eq_some_iff.1 (hget j o ho)).1
    exact ⟨_, List.getElem?_eq_getElem (by omega)⟩
  refine ⟨by rw [← h1]; simp, fun j o ho e he hb => ?_, fun i j x y o hij hx hyj ho hc L hL hLj => ?_⟩
  · obtain ⟨y, hyj⟩ := hy j o ho
    have := (h2 j o y (hget j o ho) hyj).1 e he hb
    omega
  · have hbit := (h2 j o y (hget j o ho) hyj).2.2 i x (by omega) (by simpa using hx) hc
    rw [Nat.zero_add] at hbit
    have key : ∀ j o, ops[j]? = some o → Nat.testBit ((ancL ops.toList []).getD j 0) i = true → (∀ e ∈ o.after.toList, Region.binds .any e = true → L e.on = true) → L i = true := by
      intro j
      induction j using Nat.strongRecOn with
      | _ j ih =>
        intro o ho hbit hLj
        obtain ⟨y, hyj⟩ := hy j o ho
        obtain ⟨q1, q2, _⟩ := h2 j o y (hget j o ho) hyj
        rw [Nat.zero_add] at q1 q2
        rw [q2] at hbit
        obtain ⟨e, he, hb, hx⟩ := ancB_ok _ _ hbit
        rcases hx with rfl | hx
        · exact hLj e he hb
        · have hlt := q1 e he hb
          have hj : j < ops.size := (Array.getElem?_eq_some_iff.1 ho).1
          obtain ⟨o', ho'⟩ : ∃ o', ops[e.on]? = some o' := ⟨_, Array.getElem?_eq_getElem (by omega)⟩
          exact ih e.on hlt o' ho' hx (fun e' he' hb' => hL e.on o' (hLj e he hb) ho' e' he' hb')
    exact key j o ho hbit hLj

section
variable {C : Ctx} {ops : Array Oper} {s0 s : St} {Q : Exit → St → Prop}
def Ls (n : Nat) (listed : Array Bool) : Nat → Bool := fun i => decide (i < n) && listed.getD i true
theorem clash_sym_dst {x y : Fp} {d : Nat} (hx : x.dst = some d) (h : d ∈ y.T ∨ y.dst = some d) : clash x y = true := by
  simp only [clash, hx, Bool.or_eq_true, List.contains_eq_mem, decide_eq_true_eq, beq_iff_eq]
  exact .inl (.inl (.inl h))
theorem clash_t {x y : Fp} {d : Nat} (hy : y.dst = some d) (h : d ∈ x.T) : clash x y = true := by
  simp only [clash, hy, Bool.or_eq_true, List.contains_eq_mem, decide_eq_true_eq]
  exact .inl (.inl (.inr h))
theorem clash_w {x y : Fp} {o : Nat} (hx : o ∈ x.W) (h : o ∈ y.R ∨ o ∈ y.W) : clash x y = true := by
  simp only [clash, Bool.or_eq_true, List.any_eq_true, List.contains_eq_mem, decide_eq_true_eq]
  exact .inl (.inr ⟨o, hx, h⟩)
theorem clash_r {x y : Fp} {o : Nat} (hy : o ∈ y.W) (h : o ∈ x.R) : clash x y = true := by
  simp only [clash, Bool.or_eq_true, List.any_eq_true, List.contains_eq_mem, decide_eq_true_eq]
  exact .inr ⟨o, hy, h⟩
/-- All orders, over an abstract step. -/
def wpAnyX (ops : Array Oper) (step : Nat → (Act → World → Prop) → Act → World → Prop) (N : Act → World → Prop) : Nat → Array Bool → Act → World → Prop
  | 0, listed, a, w => Region.ready .any ops listed = [] ∧ N a w
  | fuel + 1, listed, a, w => (Region.ready .any ops listed = [] → N a w) ∧ ∀ i ∈ Region.ready .any ops listed, step i (wpAnyX ops step N fuel (listed.setIfInBounds i true)) a w
theorem any_ok {step : Nat → (Act → World → Prop) → Act → World → Prop} {Qc : Exit → Act → World → Prop} {acc : List (List Nat × List Nat)} {sN : St} (htr : Trc C ops s0 acc [] sN) (hchk : chk ops acc = true)
    (hstep : ∀ i o K a w, ops[i]? = some o → (if Region.wanted o (yielded ops a.tmps) then o.wp C.P a w K Qc else K (a.put o.dst undef) w) → step i K a w) {N : Act → World → Prop} (hN : ∀ a w, Rep C sN a w → N a w) {a : Act} {w : World} (hr : Rep C s0 a w) :
    wpAnyX ops step N ops.size (Array.replicate ops.size false) a w := by
  obtain ⟨rs, h1, h2, h3, h4⟩ := trc_recs htr
  rw [List.append_nil] at h1
  have good := chk_good hchk
  have hn : rs.length = ops.size := by rw [← Array.length_toList, ← h1]; simp
  have hops : ∀ (i : Nat) (r : Rec), rs[i]? = some r → ops[i]? = some r.o := fun i r hi => by
    rw [← Array.getElem?_toList, ← h1, List.getElem?_map, hi]; rfl
  have hF : ∀ (i : Nat) (r : Rec), rs[i]? = some r → (fps ops ops.toList acc.reverse)[i]? = some ⟨r.o.dst, tOf ops r.o, r.nm, r.R⟩ := fun i r hi => by
    refine fps_get ops _ _ i r.o (r.nm, r.R) (by rw [Array.getElem?_toList]; exact hops i r hi) ?_
    rw [h2, List.reverse_reverse, List.getElem?_map, hi]; rfl
  have go : ∀ (fuel : Nat) (listed : Array Bool) (a : Act) (w : World), listed.size = ops.size → ((List.range ops.size).filter fun i => !(Ls ops.size listed i)).length ≤ fuel →
      (∀ k o, Ls ops.size listed k = true → ops[k]? = some o → ∀ e ∈ o.after.toList, Region.binds .any e = true → Ls ops.size listed e.on = true) →
      Rep C (sL rs s0 (Ls ops.size listed) ops.size) a w → wpAnyX ops step N fuel listed a w := by
    have fin : ∀ (listed : Array Bool) (a : Act) (w : World), Region.ready .any ops listed = [] → Rep C (sL rs s0 (Ls ops.size listed) ops.size) a w → N a w := by
      intro listed a w hre hrep
      have hall : ∀ j, j < ops.size → listed.getD j true = true := by
        intro j
        induction j using Nat.strongRecOn with
        | _ j ih =>
          intro hj
          rcases hlj : listed.getD j true with _ | _
          · exfalso
            have : j ∈ Region.ready .any ops listed := mem_ready.2 ⟨hlj, ops[j], Array.getElem?_eq_getElem hj, fun e he hb => by
              have hlt := good.edge j _ (Array.getElem?_eq_getElem hj) e (by simpa using he) hb
              have := ih e.on hlt (by omega)
              rw [Array.getD_eq_getD_getElem?] at this ⊢
              rcases hx : listed[e.on]? with _ | b
              · exfalso
                have hsz : listed.size ≤ e.on := by simpa using hx
                rw [Array.getD_eq_getD_getElem?, Array.getElem?_eq_none (by omega)] at hlj
                cases hlj
              · rw [hx] at this; exact this⟩
            rw [hre] at this
            cases this
          · rfl
      have e : sL rs s0 (Ls ops.size listed) ops.size = sL rs s0 all1 ops.size := sL_same _ fun i hi => by simp [Ls, all1, hi, hall i hi]
      rw [e, ← hn, ← h3] at hrep
      exact hN a w hrep
    intro fuel
    induction fuel with
    | zero =>
      intro listed a w hsz hcnt hcl hrep
      have hre : Region.ready .any ops listed = [] := by
        rw [List.eq_nil_iff_forall_not_mem]
        intro j hj
        obtain ⟨hlj, o, ho, _⟩ := mem_ready.1 hj
        have hj' : j < ops.size := (Array.getElem?_eq_some_iff.1 ho).1
        have hmem : j ∈ (List.range ops.size).filter fun i => !(Ls ops.size listed i) := by
          have h5 : Ls ops.size listed j = false := by unfold Ls; rw [hlj]; simp
          simp [hj', h5]
        have := List.length_pos_of_mem hmem
        omega
      exact ⟨hre, fin listed a w hre hrep⟩
    | succ fuel ih =>
      intro listed a w hsz hcnt hcl hrep
      refine ⟨fun hre => fin listed a w hre hrep, fun j hj => ?_⟩
      obtain ⟨hlj, o, ho, hedge⟩ := mem_ready.1 hj
      have hj' : j < ops.size := (Array.getElem?_eq_some_iff.1 ho).1
      obtain ⟨r, hr⟩ : ∃ r, rs[j]? = some r := ⟨_, List.getElem?_eq_getElem (by omega)⟩
      have hro : r.o = o := by have := hops j r hr; rw [ho] at this; injection this with this; exact this.symm
      have hLj : Ls ops.size listed j = false := by unfold Ls; rw [hlj]; simp
      have hLe : ∀ e ∈ o.after.toList, Region.binds .any e = true → Ls ops.size listed e.on = true := fun e he hb => by
        have h5 := hedge e (by simpa using he) hb
        have h6 := good.edge j o ho e he hb
        have h7 : listed.getD e.on true = true := by
          rw [Array.getD_eq_getD_getElem?] at h5 ⊢
          rcases hx : listed[e.on]? with _ | b
          · rw [hx] at h5; cases h5
          · rw [hx] at h5; exact h5
        simp only [Ls, h7, Bool.and_true, decide_eq_true_eq]
        omega
      -- what conflicts and comes ahead is done; what comes behind is not
      have hbefore : ∀ i ri, i < j → rs[i]? = some ri → clash ⟨ri.o.dst, tOf ops ri.o, ri.nm, ri.R⟩ ⟨r.o.dst, tOf ops r.o, r.nm, r.R⟩ = true → Ls ops.size listed i = true := fun i ri hi hri hc =>
        good.ord i j _ _ o hi (hF i ri hri) (hF j r hr) ho hc _ hcl hLe
      have hbehind : ∀ i ri, j < i → rs[i]? = some ri → clash ⟨r.o.dst, tOf ops r.o, r.nm, r.R⟩ ⟨ri.o.dst, tOf ops ri.o, ri.nm, ri.R⟩ = true → Ls ops.size listed i = false := fun i ri hi hri hc => by
        rcases hLi : Ls ops.size listed i with _ | _
        · rfl
        · have := good.ord j i _ _ ri.o hi (hF j r hr) (hF i ri hri) (hops i ri hri) hc _ hcl (hcl i ri.o hLi (hops i ri hri))
          rw [hLj] at this
          cases this
      have hpre : sL rs s0 (fun i => decide (i < j)) ops.size = sL rs s0 all1 j := by
        have h5 := sL_stop (rs := rs) (s0 := s0) (L := fun i => decide (i < j)) j (fun i hi => by simp; omega) (ops.size - j)
        rw [show j + (ops.size - j) = ops.size by omega] at h5
        rw [h5]
        exact sL_same j fun i hi => by simp [all1, hi]
      have heff := h4 j r hr
      rw [hro] at heff
      refine hstep j o _ a w ho ?_
      refine heff (sL rs s0 (Ls ops.size listed) ops.size) (fun t ht => ?_) (fun x hx => ?_) _ _ a w hrep (fun a' w' hrep' => ?_)
      · rw [← hpre]
        refine sL_slot t _ fun i ri hi hri hd => ?_
        rcases Nat.lt_trichotomy i j with hij | hij | hij
        · rw [hbefore i ri hij hri (clash_sym_dst hd (.inl (by rw [hro]; exact ht)))]; simp [hij]
        · subst hij; rw [hLj]; simp
        · rw [hbehind i ri hij hri (clash_t hd (by rw [hro]; exact ht))]; simp; omega
      · rw [← hpre]
        refine sL_ob x _ fun i ri hi hri hd => ?_
        rcases Nat.lt_trichotomy i j with hij | hij | hij
        · rw [hbefore i ri hij hri (clash_w hd (.inl hx))]; simp [hij]
        · subst hij; rw [hLj]; simp
        · rw [hbehind i ri hij hri (clash_r hd hx)]; simp; omega
      · have hset : ∀ i, Ls ops.size (listed.setIfInBounds j true) i = (Ls ops.size listed i || decide (i = j)) := fun i => by
          unfold Ls
          by_cases hi : i = j
          · subst hi
            simp [Array.getD_eq_getD_getElem?, hj', hsz]
          · rw [Array.getD_eq_getD_getElem?, Array.getElem?_setIfInBounds_ne (fun e => hi e.symm), ← Array.getD_eq_getD_getElem?]
            simp [hi]
        refine ih _ a' w' (by simp [hsz]) ?_ ?_ ?_
        · have hsub : ((List.range ops.size).filter fun i => !(Ls ops.size (listed.setIfInBounds j true) i)) = ((List.range ops.size).filter fun i => !(Ls ops.size listed i)).filter fun i => !decide (i = j) := by
            rw [List.filter_filter]
            refine List.filter_congr fun i _ => ?_
            rw [hset]
            cases Ls ops.size listed i <;> simp
          rw [hsub]
          have hlt : (((List.range ops.size).filter fun i => !(Ls ops.size listed i)).filter fun i => !decide (i = j)).length < ((List.range ops.size).filter fun i => !(Ls ops.size listed i)).length := by
            rw [List.length_filter_lt_length_iff_exists]
            exact ⟨j, by simp [hj', hLj], by simp⟩
          omega
        · intro k o' hk ho' e he hb
          rw [hset] at hk ⊢
          simp only [Bool.or_eq_true, decide_eq_true_eq] at hk ⊢
          rcases hk with hk | rfl
          · exact .inl (hcl k o' hk ho' e he hb)
          · rw [ho] at ho'
            injection ho' with ho'
            subst ho'
            exact .inl (hLe e he hb)
        · have hL3 : sL rs s0 (fun i => decide (i < j + 1)) ops.size = stepR (sL rs s0 (fun i => decide (i < j + 1)) j) r := by
            have h5 := sL_stop (rs := rs) (s0 := s0) (L := fun i => decide (i < j + 1)) (j + 1) (fun i hi => by simp; omega) (ops.size - (j + 1))
            rw [show j + 1 + (ops.size - (j + 1)) = ops.size by omega] at h5
            rw [h5]
            simp only [sL, hr]
            rw [if_pos (by simp)]
          have hrep2 : Rep C (stepR (sL rs s0 (Ls ops.size listed) ops.size) r) a' w' := by
            have e : stepR (sL rs s0 (Ls ops.size listed) ops.size) r = (((sL rs s0 (Ls ops.size listed) ops.size).lays r.obs).puto o.dst r.d) := by unfold stepR; rw [hro]
            rw [e]; exact hrep'
          refine hrep2.ext (fun t => ?_) (fun x => ?_) ?_
          · by_cases hd : r.o.dst = some t
            · rw [slot_step, if_pos hd]
              have h6 : (sL rs s0 (Ls ops.size (listed.setIfInBounds j true)) ops.size).slot t = (sL rs s0 (fun i => decide (i < j + 1)) ops.size).slot t := sL_slot t _ fun i ri hi hri hdi => by
                rw [hset]
                rcases Nat.lt_trichotomy i j with hij | hij | hij
                · rw [hbefore i ri hij hri (clash_sym_dst hdi (.inr hd))]; simp; omega
                · subst hij; simp
                · rw [hbehind i ri hij hri (clash_sym_dst hd (.inr hdi))]; simp; omega
              rw [h6, hL3, slot_step, if_pos hd]
            · rw [slot_step, if_neg hd]
              refine sL_slot t _ fun i ri hi hri hdi => ?_
              rw [hset]
              have : i ≠ j := fun e => by subst e; rw [hr] at hri; injection hri with hri; subst hri; exact hd hdi
              simp [this]
          · by_cases hd : x ∈ r.nm
            · have h6 : (sL rs s0 (Ls ops.size (listed.setIfInBounds j true)) ops.size).ob x = (sL rs s0 (fun i => decide (i < j + 1)) ops.size).ob x := sL_ob x _ fun i ri hi hri hdi => by
                rw [hset]
                rcases Nat.lt_trichotomy i j with hij | hij | hij
                · rw [hbefore i ri hij hri (clash_w hdi (.inr hd))]; simp; omega
                · subst hij; simp
                · rw [hbehind i ri hij hri (clash_w hd (.inr hdi))]; simp; omega
              rw [h6, hL3]
              exact ob_in _ _ _ _ hd
            · rw [ob_step _ _ _ hd]
              refine sL_ob x _ fun i ri hi hri hdi => ?_
              rw [hset]
              have : i ≠ j := fun e => by subst e; rw [hr] at hri; injection hri with hri; subst hri; exact hd hdi
              simp [this]
          · rw [dk_step, sL_dk, sL_dk]
  have hL0 : ∀ i, i < ops.size → Ls ops.size (Array.replicate ops.size false) i = false := fun i hi => by simp [Ls, Array.getD_eq_getD_getElem?, hi]
  refine go ops.size _ a _ (by simp) (Nat.le_trans (List.length_filter_le _ _) (by simp)) (fun k o hk => ?_) ?_
  · exfalso
    have hk' := hk
    unfold Ls at hk'
    simp only [Bool.and_eq_true, decide_eq_true_eq] at hk'
    rw [hL0 k hk'.1] at hk
    cases hk
  · have e : sL rs s0 (Ls ops.size (Array.replicate ops.size false)) ops.size = sL rs s0 (fun _ => false) ops.size := sL_same _ fun i hi => hL0 i hi
    rw [e]
    have := sL_stop (rs := rs) (s0 := s0) (L := fun _ => false) 0 (fun _ _ => rfl) ops.size
    rw [Nat.zero_add] at this
    rw [this]
    exact hr
theorem rep_drew {s : St} {a : Act} {w : World} (hr : Rep C s a w) : Rep C s a { w with drawn := w.drawn + 1 } := by
  obtain ⟨q1, q2, ρ, S, Φ, q3, q4⟩ := hr
  obtain ⟨d1, d2⟩ := q3.drew
  exact ⟨q1, q2, ρ, S, Φ, d1, fun t => d2 _ _ (q4 t)⟩
theorem vc_regionD (hm : C.P.follows .mixedOrders = true) {id : Nat} (hnd : noDefer ops = true) (h : ∀ M, Stp C ops M → (∀ acc s', chk ops acc = true → Q .normal s' → M acc [] s') → M [] ops.toList s0) : VC C (.region id ops true) s0 Q := by
  refine h (fun acc rest s => Trc C ops s0 acc rest s → VC C (.region id ops true) s0 Q) ⟨?_⟩ (fun acc s' hc hq htr => ?_) .nil
  · intro acc o rest s d obs R he hk htr
    exact hk (.cons acc o rest s d obs R htr he)
  · intro m a w hr
    refine wpIn_region_any hm ?_
    have h1 := any_ok (step := wpOpIn (fen C.rnd) m C.P ops (fun e a' w' => ∃ s', Rep C s' a' w' ∧ Q e s')) (N := fun a w => ∃ s', Rep C s' a w ∧ Q .normal s') (Qc := fun e a' w' => ∃ s', Rep C s' a' w' ∧ Q e s') htr hc (fun i o K a w ho h => by
      unfold wpOpIn
      rw [ho]
      exact step_in (noDefer_of hnd (by rw [Array.mem_toList_iff]; exact Array.mem_of_getElem? ho)) h) (fun a w hr => ⟨_, hr, hq⟩) (rep_drew hr)
    have key : ∀ (fuel : Nat) (listed : Array Bool) (a : Act) (w : World), wpAnyX ops (wpOpIn (fen C.rnd) m C.P ops (fun e a' w' => ∃ s', Rep C s' a' w' ∧ Q e s')) (fun a w => ∃ s', Rep C s' a w ∧ Q .normal s') fuel listed a w → wpAnyIn (fen C.rnd) m C.P .any ops (fun e a' w' => ∃ s', Rep C s' a' w' ∧ Q e s') fuel listed a w := by
      intro fuel
      induction fuel with
      | zero => intro listed a w h; exact h
      | succ fuel ih => intro listed a w h; exact ⟨h.1, fun i hi => wpOpIn_mono (fun a w h => ih _ a w h) (h.2 i hi)⟩
    exact key _ _ _ _ h1
end
end Go.Proofs.Ytpmbdppppnbmnaa
