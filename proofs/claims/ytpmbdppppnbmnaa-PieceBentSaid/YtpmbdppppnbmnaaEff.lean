/- One operation of a region, in the abstract state: what it yields, which objects it lays, on what that hangs. Over any program. -/
import Derived.Test.YtpmbdppppnbmnaaFc
namespace Go.Proofs.Ytpmbdppppnbmnaa
open Go Go.RowKit
set_option linter.unusedVariables false
set_option linter.unusedSimpArgs false

/-- What an operand reads as. -/
def ev (C : Ctx) (s : St) : Operand → D
  | .tmp t => s.slot t
  | .const v => ofVal v
  | .global g => match C.G g with | some cs => cs | none => .bot
  | .func f => .fn f
def St.lays (s : St) : List (Nat × Ob) → St
  | [] => s
  | (o, ob) :: r => (s.lay o ob).lays r
def dstOk (n : Nat) (t : Option Nat) : Prop := ∀ x, t = some x → x < n
theorem dstOk_some {n t : Nat} (h : t < n) : dstOk n (some t) := fun x e => by injection e with e; omega
theorem dstOk_none {n : Nat} : dstOk n none := fun x e => by cases e
/-- The slots that an operand looks at. -/
def opT : Operand → List Nat
  | .tmp t => [t]
  | _ => []

/-- THE EFFECT: wherever the slots T and the objects R are as in s, the operation yields d and lays obs. -/
def Eff (C : Ctx) (o : Oper) (s : St) (d : D) (obs : List (Nat × Ob)) (T R : List Nat) : Prop :=
  ∀ σ : St, (∀ t ∈ T, σ.slot t = s.slot t) → (∀ x ∈ R, σ.ob x = s.ob x) → ∀ (K : Act → World → Prop) (Q : Exit → Act → World → Prop) (a : Act) (w : World), Rep C σ a w →
    (∀ a' w', Rep C ((σ.lays obs).puto o.dst d) a' w' → K a' w') → o.wp C.P a w K Q

section
variable {C : Ctx} {s σ : St} {a : Act} {w : World}
theorem ev_ok (h : Rep C s a w) (x : Operand) : ∃ ρ S Φ, RepW C s ρ S Φ w ∧ (∀ t, RV w S ρ s.sh (s.slot t) (a.tmps.getD t undef) []) ∧ RV w S ρ s.sh (ev C s x) (a.eval x) [] := by
  obtain ⟨_, _, ρ, S, Φ, h1, h2⟩ := h
  refine ⟨ρ, S, Φ, h1, h2, ?_⟩
  cases x with
  | tmp t => exact h2 t
  | const v => exact ofVal_ok v
  | global g =>
    show RV w S ρ s.sh (match C.G g with | some cs => cs | none => .bot) (.pointer (some ⟨g, 0, none⟩)) []
    rcases hg : C.G g with _ | cs
    · exact .bot _
    · exact h1.gl g cs hg
  | func f => exact .fn f
theorem ev_rv {ρ : Nat → Pl} {S : Nat → Prop} {Φ : Nat → List Nat} (h1 : RepW C s ρ S Φ w) (h2 : ∀ t, RV w S ρ s.sh (s.slot t) (a.tmps.getD t undef) []) (x : Operand) : RV w S ρ s.sh (ev C s x) (a.eval x) [] := by
  cases x with
  | tmp t => exact h2 t
  | const v => exact ofVal_ok v
  | global g =>
    show RV w S ρ s.sh (match C.G g with | some cs => cs | none => .bot) (.pointer (some ⟨g, 0, none⟩)) []
    rcases hg : C.G g with _ | cs
    · exact .bot _
    · exact h1.gl g cs hg
  | func f => exact .fn f
theorem ev_same {x : Operand} (hT : ∀ t ∈ opT x, σ.slot t = s.slot t) : ev C σ x = ev C s x := by
  cases x with
  | tmp t => exact hT t (by simp [opT])
  | _ => rfl
theorem wp_value {P : Program} {o : Oper} {K : Act → World → Prop} {Q : Exit → Act → World → Prop} {v : Value} {w' : World} (h : (execOp a.eval o).run P w = .ok (.value v) w') (hk : K (a.put o.dst v) w') : o.wp P a w K Q := by
  unfold Oper.wp
  rw [h]
  exact hk
theorem wp_skip_ {P : Program} {o : Oper} {K : Act → World → Prop} {Q : Exit → Act → World → Prop} {w' : World} (h : (execOp a.eval o).run P w = .ok .skip w') (hk : K (a.put o.dst undef) w') : o.wp P a w K Q := by
  unfold Oper.wp
  rw [h]
  exact hk

/-- An operation that only yields a value. -/
theorem eff_pure {o : Oper} {d : D} {T R : List Nat} (hd : dstOk C.n o.dst)
    (h : ∀ σ : St, (∀ t ∈ T, σ.slot t = s.slot t) → (∀ x ∈ R, σ.ob x = s.ob x) → ∀ (a : Act) (w : World) ρ S Φ, RepW C σ ρ S Φ w → (∀ t, RV w S ρ σ.sh (σ.slot t) (a.tmps.getD t undef) []) → ∃ v, (execOp a.eval o).run C.P w = .ok (.value v) w ∧ RV w S ρ σ.sh d v []) :
    Eff C o s d [] T R := by
  intro σ hT hR K Q a w hrep hK
  obtain ⟨h1, h2, ρ, S, Φ, h3, h4⟩ := hrep
  obtain ⟨v, hr, hv⟩ := h σ hT hR a w ρ S Φ h3 h4
  exact wp_value hr (hK _ _ (rep_put h1 h2 h3 h4 o.dst hd d v hv))
/-- An operation that lays an object. -/
theorem eff_lay {o : Oper} {d : D} {T R : List Nat} {ob : Nat} {b : Ob} (hd : dstOk C.n o.dst)
    (h : ∀ σ : St, (∀ t ∈ T, σ.slot t = s.slot t) → (∀ x ∈ R, σ.ob x = s.ob x) → ∀ (a : Act) (w : World) ρ S Φ, RepW C σ ρ S Φ w → (∀ t, RV w S ρ σ.sh (σ.slot t) (a.tmps.getD t undef) []) → ∃ r, (execOp a.eval o).run C.P w = r.andThen (fun v w => .ok (.value v) w) ∧ Outc C σ S ρ w r (σ.lay ob b) d) :
    Eff C o s d [(ob, b)] T R := by
  intro σ hT hR K Q a w hrep hK
  obtain ⟨h1, h2, ρ, S, Φ, h3, h4⟩ := hrep
  obtain ⟨r, hr, v, w', ρ', Φ', rfl, k1, k2, k3⟩ := h σ hT hR a w ρ S Φ h3 h4
  exact wp_value hr (hK _ _ (rep_put (s' := σ.lay ob b) h1 h2 k1 (fun t => k2 _ _ (h4 t)) o.dst hd d v k3))

/-! The functions of objects look at no more than they name. -/
theorem byt_loc {O O' : Nat → Ob} {x : D} {g : Prop} {l : List UInt8} {R : List Nat} (e : byt O x = some (g, l, R)) (h : ∀ o ∈ R, O' o = O o) : byt O' x = some (g, l, R) := by
  unfold byt at *
  split at e
  · exact e
  · exact e
  · rename_i o g' off len
    have hR : R = [o] := by split at e <;> first | (injection e with e; injection e with e1 e2; injection e2 with e2 e3; exact e3.symm) | cases e
    subst hR
    rw [h o (by simp)]
    exact e
  · cases e
theorem ldD_loc {P : Program} {O O' : Nat → Ob} {t : TypeId} {x : D} {g : Prop} {d : D} {R : List Nat} (e : ldD (tiOf P) O t x = some (g, d, R)) (h : ∀ o ∈ R, O' o = O o) : ldD (tiOf P) O' t x = some (g, d, R) := by
  unfold ldD at *
  split at e
  · rename_i o g' off
    have hR : R = [o] := by
      split at e
      · split at e
        · injection e with e; injection e with e1 e2; injection e2 with e2 e3; exact e3.symm
        · split at e
          · injection e with e; injection e with e1 e2; injection e2 with e2 e3; exact e3.symm
          · cases e
      · split at e
        · injection e with e; injection e with e1 e2; injection e2 with e2 e3; exact e3.symm
        · split at e
          · injection e with e; injection e with e1 e2; injection e2 with e2 e3; exact e3.symm
          · cases e
      · cases e
    subst hR
    rw [h o (by simp)]
    exact e
  · exact e
  · exact e
  · exact e
  · cases e
theorem ixaD_loc {P : Program} {O O' : Nat → Ob} {t : TypeId} {x y : D} {g : Prop} {d : D} {R : List Nat} (e : ixaD (tiOf P) O t x y = some (g, d, R)) (h : ∀ o ∈ R, O' o = O o) : ixaD (tiOf P) O' t x y = some (g, d, R) := by
  unfold ixaD at *
  split at e
  · split at e <;> first
      | exact e
      | (injection e with e; injection e with e1 e2; injection e2 with e2 e3; subst e3; simp only [h _ (List.mem_singleton.2 rfl)]; rw [← e1, ← e2])
      | cases e
  · cases e
theorem fdaD_loc {P : Program} {O O' : Nat → Ob} {t : TypeId} {x : D} {f : Nat} {g : Prop} {d : D} {R : List Nat} (e : fdaD (tiOf P) O t x f = some (g, d, R)) (h : ∀ o ∈ R, O' o = O o) : fdaD (tiOf P) O' t x f = some (g, d, R) := by
  unfold fdaD at *
  split at e
  · split at e
    · split at e <;> first
        | exact e
        | (injection e with e; injection e with e1 e2; injection e2 with e2 e3; subst e3; simp only [h _ (List.mem_singleton.2 rfl)]; rw [← e1, ← e2])
        | cases e
    · cases e
  · cases e
theorem slcD_loc {P : Program} {O O' : Nat → Ob} {t : TypeId} {x : D} {lo hi : Option D} {g : Prop} {d : D} {R : List Nat} (e : slcD (tiOf P) O t x lo hi = some (g, d, R)) (h : ∀ o ∈ R, O' o = O o) : slcD (tiOf P) O' t x lo hi = some (g, d, R) := by
  unfold slcD at *
  split at e
  · split at e <;> first
      | exact e
      | (injection e with e; injection e with e1 e2; injection e2 with e2 e3; subst e3; simp only [h _ (List.mem_singleton.2 rfl)]; rw [← e1, ← e2])
      | cases e
  · cases e
theorem lenD_loc {P : Program} {O O' : Nat → Ob} {t : TypeId} {x : D} {g : Prop} {d : D} {R : List Nat} (e : lenD (tiOf P) O t x = some (g, d, R)) (h : ∀ o ∈ R, O' o = O o) : lenD (tiOf P) O' t x = some (g, d, R) := by
  unfold lenD at *
  split at e <;> first
      | exact e
      | (injection e with e; injection e with e1 e2; injection e2 with e2 e3; subst e3; simp only [h _ (List.mem_singleton.2 rfl)]; rw [← e1, ← e2])
      | cases e
theorem apD_loc {P : Program} {O O' : Nat → Ob} {t : TypeId} {x : D} {g : Prop} {d : D} {R : List Nat} (e : apD (tiOf P) O t x = some (g, d, R)) (h : ∀ o ∈ R, O' o = O o) : apD (tiOf P) O' t x = some (g, d, R) := by
  unfold apD at *
  split at e <;> first
      | exact e
      | (injection e with e; injection e with e1 e2; injection e2 with e2 e3; subst e3; simp only [h _ (List.mem_singleton.2 rfl)]; rw [← e1, ← e2])
      | cases e
end
end Go.Proofs.Ytpmbdppppnbmnaa
