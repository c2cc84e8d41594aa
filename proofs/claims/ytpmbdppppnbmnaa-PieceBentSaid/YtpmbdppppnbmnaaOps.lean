/- The effects of the operations that read or reckon, and of those that lay or write. Over any program. -/
import Derived.Test.YtpmbdppppnbmnaaEff
namespace Go.Proofs.Ytpmbdppppnbmnaa
open Go Go.RowKit
set_option linter.unusedVariables false
set_option linter.unusedSimpArgs false

section
variable {C : Ctx} {s : St} {dst : Option Tmp} {ty : TypeId} {pos : String} {after : Array Edge} {gd : Option (Nat × Bool)}
theorem eff_move (x : Operand) (hd : dstOk C.n dst) : Eff C ⟨dst, .move x, ty, pos, after, gd⟩ s (ev C s x) [] (opT x) [] :=
  eff_pure hd fun σ hT hR a w ρ S Φ h1 h2 => ⟨a.eval x, rfl, by rw [← ev_same hT]; exact ev_rv h1 h2 x⟩
theorem eff_assign (x : Operand) (hd : dstOk C.n dst) : Eff C ⟨dst, .assign x, ty, pos, after, gd⟩ s (ev C s x) [] (opT x) [] :=
  eff_pure hd fun σ hT hR a w ρ S Φ h1 h2 => ⟨a.eval x, rfl, by rw [← ev_same hT]; exact ev_rv h1 h2 x⟩
theorem opT2 {x y : Operand} {σ : St} (h : ∀ t ∈ opT x ++ opT y, σ.slot t = s.slot t) : ev C σ x = ev C s x ∧ ev C σ y = ev C s y :=
  ⟨ev_same fun t ht => h t (List.mem_append_left _ ht), ev_same fun t ht => h t (List.mem_append_right _ ht)⟩
theorem opT3 {x y z : Operand} {σ : St} (h : ∀ t ∈ opT x ++ opT y ++ opT z, σ.slot t = s.slot t) : ev C σ x = ev C s x ∧ ev C σ y = ev C s y ∧ ev C σ z = ev C s z :=
  ⟨ev_same fun t ht => h t (by simp [ht]), ev_same fun t ht => h t (by simp [ht]), ev_same fun t ht => h t (by simp [ht])⟩
theorem eff_pickT (c x y : Operand) (e : ev C s c = .bool true) (hd : dstOk C.n dst) : Eff C ⟨dst, .pick c x y, ty, pos, after, gd⟩ s (ev C s x) [] (opT c ++ opT x ++ opT y) [] :=
  eff_pure hd fun σ hT hR a w ρ S Φ h1 h2 => by
    obtain ⟨e1, e2, e3⟩ := opT3 (C := C) hT
    have hc := inv_bool (by have := ev_rv h1 h2 c; rw [e1, e] at this; exact this)
    exact ⟨a.eval x, by simp [execOp, hc, asBool], by rw [← e2]; exact ev_rv h1 h2 x⟩
theorem eff_pickF (c x y : Operand) (e : ev C s c = .bool false) (hd : dstOk C.n dst) : Eff C ⟨dst, .pick c x y, ty, pos, after, gd⟩ s (ev C s y) [] (opT c ++ opT x ++ opT y) [] :=
  eff_pure hd fun σ hT hR a w ρ S Φ h1 h2 => by
    obtain ⟨e1, e2, e3⟩ := opT3 (C := C) hT
    have hc := inv_bool (by have := ev_rv h1 h2 c; rw [e1, e] at this; exact this)
    exact ⟨a.eval y, by simp [execOp, hc, asBool], by rw [← e3]; exact ev_rv h1 h2 y⟩
/-- A choice that is open: a truth that may be known under a condition only. -/
def truth : D → Option (Bool × Bool)
  | .bool b => some (true, b)
  | .iff c (.bool b) => some (c, b)
  | _ => none
theorem truth_ok {d : D} {c b : Bool} (e : truth d = some (c, b)) {w : World} {S : Nat → Prop} {ρ : Nat → Pl} {H : Nat → Sh} {v : Value} (h : RV w S ρ H d v []) (hc : c = true) : v = .bool b := by
  unfold truth at e
  split at e
  · injection e with e; injection e with e1 e2; subst e2; exact inv_bool h
  · injection e with e; injection e with e1 e2; subst e1; subst e2
    cases h with
    | iff _ _ _ h h0 => exact inv_bool (h hc)
  · cases e
/-- Which kind of choice: 1 'or', 2 'and'. -/
def pkK (x y : Operand) : Nat :=
  match x, y with
  | .const (.bool true), _ => 1
  | _, .const (.bool false) => 2
  | _, _ => 0
def pkB (k : Nat) (b bx by' : Bool) : Bool :=
  match k with
  | 1 => b || by'
  | 2 => b && bx
  | _ => cond b bx by'
theorem pkB_eq {C : Ctx} {s : St} {x y : Operand} {bx by' cx cy : Bool} (ex : truth (ev C s x) = some (cx, bx)) (ey : truth (ev C s y) = some (cy, by')) (b : Bool) : pkB (pkK x y) b bx by' = cond b bx by' := by
  unfold pkK
  split
  · have : bx = true := by have h : some (true, true) = some (cx, bx) := ex; injection h with h; injection h with h1 h2; exact h2.symm
    subst this
    cases b <;> rfl
  · have : by' = false := by have h : some (true, false) = some (cy, by') := ey; injection h with h; injection h with h1 h2; exact h2.symm
    subst this
    cases b <;> rfl
  · rfl
theorem eff_pickB (c x y : Operand) {b bx by' cc cx cy : Bool} (e : truth (ev C s c) = some (cc, b)) (ex : truth (ev C s x) = some (cx, bx)) (ey : truth (ev C s y) = some (cy, by')) (hcc : cc = true) (hx : b = true → cx = true) (hy : b = false → cy = true) (hd : dstOk C.n dst) :
    Eff C ⟨dst, .pick c x y, ty, pos, after, gd⟩ s (.bool (pkB (pkK x y) b bx by')) [] (opT c ++ opT x ++ opT y) [] :=
  eff_pure hd fun σ hT hR a w ρ S Φ h1 h2 => by
    obtain ⟨e1, e2, e3⟩ := opT3 (C := C) hT
    have hc := truth_ok e (by have := ev_rv h1 h2 c; rw [e1] at this; exact this) hcc
    rw [pkB_eq ex ey]
    refine ⟨.bool (cond b bx by'), ?_, .bool _⟩
    cases b
    · have := truth_ok ey (by have := ev_rv h1 h2 y; rw [e3] at this; exact this) (hy rfl)
      simp [execOp, hc, asBool, this]
    · have := truth_ok ex (by have := ev_rv h1 h2 x; rw [e2] at this; exact this) (hx rfl)
      simp [execOp, hc, asBool, this]
theorem eff_load (t : TypeId) (x : Operand) {g : Prop} {d : D} {R : List Nat} (e : ldD (tiOf C.P) s.ob t (ev C s x) = some (g, d, R)) (hg : g) (hd : dstOk C.n dst) : Eff C ⟨dst, .load t x, ty, pos, after, gd⟩ s d [] (opT x) R :=
  eff_pure hd fun σ hT hR a w ρ S Φ h1 h2 => by
    obtain ⟨v, h3, h4⟩ := ldD_ok h1 (ldD_loc (by rw [← ev_same hT] at e; exact e) hR) hg (ev_rv h1 h2 x)
    exact ⟨v, by simp [execOp, h3], h4⟩
theorem eff_fda (t : TypeId) (x : Operand) (f : Nat) {g : Prop} {d : D} {R : List Nat} (e : fdaD (tiOf C.P) s.ob t (ev C s x) f = some (g, d, R)) (hg : g) (hd : dstOk C.n dst) : Eff C ⟨dst, .fieldAddr t x f, ty, pos, after, gd⟩ s d [] (opT x) R :=
  eff_pure hd fun σ hT hR a w ρ S Φ h1 h2 => by
    obtain ⟨v, h3, h4⟩ := fdaD_ok h1 (fdaD_loc (by rw [← ev_same hT] at e; exact e) hR) hg (ev_rv h1 h2 x)
    exact ⟨v, by simp [execOp, h3], h4⟩
theorem eff_ixa (t : TypeId) (x y : Operand) {g : Prop} {d : D} {R : List Nat} (e : ixaD (tiOf C.P) s.ob t (ev C s x) (ev C s y) = some (g, d, R)) (hg : g) (hd : dstOk C.n dst) : Eff C ⟨dst, .indexAddr t x y, ty, pos, after, gd⟩ s d [] (opT x ++ opT y) R :=
  eff_pure hd fun σ hT hR a w ρ S Φ h1 h2 => by
    obtain ⟨e1, e2⟩ := opT2 (C := C) hT
    obtain ⟨v, h3, h4⟩ := ixaD_ok h1 (ixaD_loc (by rw [← e1, ← e2] at e; exact e) hR) hg (ev_rv h1 h2 x) (ev_rv h1 h2 y)
    exact ⟨v, by simp [execOp, h3], h4⟩
theorem eff_fld (t : TypeId) (x : Operand) (f : Nat) {g : Prop} {d : D} (e : fldD (tiOf C.P) t (ev C s x) f = some (g, d)) (hg : g) (hd : dstOk C.n dst) : Eff C ⟨dst, .field t x f, ty, pos, after, gd⟩ s d [] (opT x) [] :=
  eff_pure hd fun σ hT hR a w ρ S Φ h1 h2 => by
    obtain ⟨v, h3, h4⟩ := fldD_ok (by rw [← ev_same hT] at e; exact e) hg (ev_rv h1 h2 x)
    exact ⟨v, by simp [execOp, h3], h4⟩
theorem eff_idx (t : TypeId) (x y : Operand) {g : Prop} {d : D} (e : idxD (tiOf C.P) t (ev C s x) (ev C s y) = some (g, d)) (hg : g) (hd : dstOk C.n dst) : Eff C ⟨dst, .index t x y, ty, pos, after, gd⟩ s d [] (opT x ++ opT y) [] :=
  eff_pure hd fun σ hT hR a w ρ S Φ h1 h2 => by
    obtain ⟨e1, e2⟩ := opT2 (C := C) hT
    obtain ⟨v, h3, h4⟩ := idxD_ok (by rw [← e1, ← e2] at e; exact e) hg (ev_rv h1 h2 x) (ev_rv h1 h2 y)
    exact ⟨v, by simp [execOp, h3], h4⟩
theorem eqGuard_ok {P : Program} {w : World} {op : BinOp} {t : TypeId} {x y : Operand} {vx vy : Value} {dx dy : D} {H : Nat → Sh} {S : Nat → Prop} {ρ : Nat → Pl} {ty : Ty} {r : Prop × D × List Nat} (e : binD H ty op dx dy = some r) (hx : RV w S ρ H dx vx []) (hy : RV w S ρ H dy vy []) :
    (eqGuard op t x y vx vy).run P w = .ok () w := by
  have key : (∀ c c', ¬ (vx = .agg c ∧ vy = .agg c')) → ¬ (vx = .nilIface ∧ vy = .nilIface) → (eqGuard op t x y vx vy).run P w = .ok () w := by
    intro h1 h2
    cases op <;> try rfl
    all_goals
      cases vx <;> try rfl
      all_goals
        cases vy <;> try rfl
        first | exact absurd ⟨rfl, rfl⟩ (h1 _ _) | exact absurd ⟨rfl, rfl⟩ h2
  unfold binD at e
  split at e <;> first | (cases e; done) | skip
  all_goals
    first
      | (obtain rfl := inv_int hx; exact key (fun c c' h => by cases h.1) (fun h => by cases h.1))
      | (obtain rfl := inv_u8 hx; exact key (fun c c' h => by cases h.1) (fun h => by cases h.1))
      | (obtain rfl := inv_u32 hx; exact key (fun c c' h => by cases h.1) (fun h => by cases h.1))
      | (obtain rfl := inv_str hx; exact key (fun c c' h => by cases h.1) (fun h => by cases h.1))
      | (obtain rfl := inv_bool hx; exact key (fun c c' h => by cases h.1) (fun h => by cases h.1))
      | (obtain rfl := inv_nilP hy; exact key (fun c c' h => by cases h.2) (fun h => by cases h.2))
      | (obtain rfl := inv_nilS hy; exact key (fun c c' h => by cases h.2) (fun h => by cases h.2))
theorem binD_loc {H H' : Nat → Sh} {ty : Ty} {op : BinOp} {x y : D} {g : Prop} {d : D} {R : List Nat} (e : binD H ty op x y = some (g, d, R)) (h : ∀ o ∈ R, H' o = H o) : binD H' ty op x y = some (g, d, R) := by
  unfold binD at *
  split at e <;> first
    | exact e
    | (split at e <;> first
        | exact e
        | (injection e with e; injection e with e1 e2; injection e2 with e2 e3; subst e3; simp only [h _ (List.mem_singleton.2 rfl)]; rw [← e1, ← e2])
        | cases e)
theorem sh_same {σ : St} {R : List Nat} (hR : ∀ x ∈ R, σ.ob x = s.ob x) : ∀ x ∈ R, σ.sh x = s.sh x := fun x hx => by unfold St.sh; rw [hR x hx]
theorem eff_bin (op : BinOp) (t t' : TypeId) (x y : Operand) {g : Prop} {d : D} {R : List Nat} (e : binD s.sh (tiOf C.P t).ty op (ev C s x) (ev C s y) = some (g, d, R)) (hg : g) (hd : dstOk C.n dst) : Eff C ⟨dst, .binOp op t x y t', ty, pos, after, gd⟩ s d [] (opT x ++ opT y) R :=
  eff_pure hd fun σ hT hR a w ρ S Φ h1 h2 => by
    obtain ⟨e1, e2⟩ := opT2 (C := C) hT
    rw [← e1, ← e2] at e
    have e' := binD_loc e (sh_same hR)
    obtain ⟨v, h3, h4⟩ := binD_ok (P := C.P) (w := w) (op := op) (T := t) e' hg (ev_rv h1 h2 x) (ev_rv h1 h2 y)
    have h5 := eqGuard_ok (P := C.P) (op := op) (t := t) (x := x) (y := y) e' (ev_rv h1 h2 x) (ev_rv h1 h2 y)
    exact ⟨v, by simp [execOp, h3, h5], h4⟩
theorem eff_eqa (op : BinOp) (t t' : TypeId) (x y : Operand) {g : Prop} {d : D} (e : eqaD (tiOf C.P) op t (ev C s x) (ev C s y) = some (g, d)) (hg : g) (hd : dstOk C.n dst) : Eff C ⟨dst, .binOp op t x y t', ty, pos, after, gd⟩ s d [] (opT x ++ opT y) [] :=
  eff_pure hd fun σ hT hR a w ρ S Φ h1 h2 => by
    obtain ⟨e1, e2⟩ := opT2 (C := C) hT
    rw [← e1, ← e2] at e
    obtain ⟨v, h5, h3, h4⟩ := eqaD_ok (w := w) e hg (ev_rv h1 h2 x) (ev_rv h1 h2 y) x y
    exact ⟨v, by simp [execOp, h3, h5], h4⟩
theorem eff_un (op : UnOp) (t : TypeId) (x : Operand) {g : Prop} {d : D} (e : unD op (ev C s x) = some (g, d)) (hg : g) (hd : dstOk C.n dst) : Eff C ⟨dst, .unOp op t x, ty, pos, after, gd⟩ s d [] (opT x) [] :=
  eff_pure hd fun σ hT hR a w ρ S Φ h1 h2 => by
    obtain ⟨v, h3, h4⟩ := unD_ok (P := C.P) (w := w) (by rw [← ev_same hT] at e; exact e) hg (ev_rv h1 h2 x)
    exact ⟨v, by simp [execOp, h3], h4⟩
theorem eff_cv (t t' : TypeId) (x : Operand) {g : Prop} {d : D} (e : cvD (tiOf C.P) t t' (ev C s x) = some (g, d)) (hg : g) (hd : dstOk C.n dst) : Eff C ⟨dst, .convert t t' x, ty, pos, after, gd⟩ s d [] (opT x) [] :=
  eff_pure hd fun σ hT hR a w ρ S Φ h1 h2 => by
    obtain ⟨v, h3, h4⟩ := cvD_ok (w := w) (by rw [← ev_same hT] at e; exact e) hg (ev_rv h1 h2 x)
    exact ⟨v, by simp [execOp, h3], h4⟩
/-- 'string(b)' -/
theorem eff_b2s (t t' : TypeId) (x : Operand) {e0 : Nat} (ht : (tiOf C.P t).ty = .slice e0) (ht' : (tiOf C.P t').ty = .str) (he : (tiOf C.P e0).ty = .int .u8) {g : Prop} {l : List UInt8} {R : List Nat} (e : byt s.ob (ev C s x) = some (g, l, R)) (hg : g) (hd : dstOk C.n dst) :
    Eff C ⟨dst, .convert t t' x, ty, pos, after, gd⟩ s (.str l) [] (opT x) R :=
  eff_pure hd fun σ hT hR a w ρ S Φ h1 h2 => by
    have h3 := b2s_ok h1 ht ht' he (byt_loc (by rw [← ev_same hT] at e; exact e) hR) hg (ev_rv h1 h2 x)
    exact ⟨_, by simp [execOp, h3], .str l⟩
theorem eff_slc (t : TypeId) (x : Operand) (lo hi : Option Operand) {g : Prop} {d : D} {R : List Nat} (e : slcD (tiOf C.P) s.ob t (ev C s x) (lo.map (ev C s)) (hi.map (ev C s)) = some (g, d, R)) (hg : g) (hsz : ∀ el, (tiOf C.P t).ty = .slice el → (tiOf C.P el).sz ≠ 0 ∧ (byt s.ob (ev C s x) ≠ none → (tiOf C.P el).sz = 1)) (hd : dstOk C.n dst) :
    Eff C ⟨dst, .slice t x lo hi none, ty, pos, after, gd⟩ s d [] (opT x ++ (lo.elim [] opT) ++ (hi.elim [] opT)) R :=
  eff_pure hd fun σ hT hR a w ρ S Φ h1 h2 => by
    have e1 : ev C σ x = ev C s x := ev_same fun t ht => hT t (by simp [ht])
    have e2 : lo.map (ev C σ) = lo.map (ev C s) := by
      cases lo with
      | none => rfl
      | some z => exact congrArg some (ev_same fun t ht => hT t (by simp [ht]))
    have e3 : hi.map (ev C σ) = hi.map (ev C s) := by
      cases hi with
      | none => rfl
      | some z => exact congrArg some (ev_same fun t ht => hT t (by simp [ht]))
    rw [← e1, ← e2, ← e3] at e
    have e' := slcD_loc e hR
    obtain ⟨v, h3, h4⟩ := slcD_ok (vx := a.eval x) (vlo := lo.map a.eval) (vhi := hi.map a.eval) h1 e' hg (ev_rv h1 h2 x)
      (fun d hq => by cases lo with | none => cases hq | some z => injection hq with hq; subst hq; exact ⟨_, rfl, ev_rv h1 h2 z⟩) (fun hq => by cases lo with | none => rfl | some z => cases hq)
      (fun d hq => by cases hi with | none => cases hq | some z => injection hq with hq; subst hq; exact ⟨_, rfl, ev_rv h1 h2 z⟩) (fun hq => by cases hi with | none => rfl | some z => cases hq)
      (fun el hel => ⟨_, run_sz' (hsz el hel).1, fun hne => (hsz el hel).2 (by
        rw [e1] at hne e
        generalize ev C s x = dx at hne e
        cases dx <;> first
          | (exact absurd rfl hne)
          | (intro hb; cases hb; done)
          | skip
        rename_i o g0 off len
        have hRo : o ∈ R := by
          unfold slcD at e
          rw [hel] at e
          split at e
          · injection e with e; injection e with e4 e5; injection e5 with e5 e6; rw [← e6]; simp
          · cases e
        unfold byt at hne ⊢
        dsimp only at hne ⊢
        rw [hR o hRo] at hne
        exact hne)⟩)
    exact ⟨v, by simp [execOp, h3], h4⟩
theorem eff_ap (t : TypeId) (x : Operand) {g : Prop} {d : D} {R : List Nat} (e : apD (tiOf C.P) s.ob t (ev C s x) = some (g, d, R)) (hg : g) (hd : dstOk C.n dst) : Eff C ⟨dst, .sliceToArrayPointer t x, ty, pos, after, gd⟩ s d [] (opT x) R :=
  eff_pure hd fun σ hT hR a w ρ S Φ h1 h2 => by
    obtain ⟨v, h3, h4⟩ := apD_ok (apD_loc (by rw [← ev_same hT] at e; exact e) hR) hg (ev_rv h1 h2 x)
    exact ⟨v, by simp [execOp, h3], h4⟩
theorem eff_len (t : TypeId) (x : Operand) {g : Prop} {d : D} {R : List Nat} (e : lenD (tiOf C.P) s.ob t (ev C s x) = some (g, d, R)) (hg : g) (hd : dstOk C.n dst) : Eff C ⟨dst, .call { callee := .builtin .len, args := #[x], argTypes := #[t] }, ty, pos, after, gd⟩ s d [] (opT x) R :=
  eff_pure hd fun σ hT hR a w ρ S Φ h1 h2 => by
    obtain ⟨v, h3, h4⟩ := lenD_ok (ty := ty) (lenD_loc (by rw [← ev_same hT] at e; exact e) hR) hg (ev_rv h1 h2 x)
    exact ⟨v, by simp [execOp, resolve, invoke, builtin, h3], h4⟩
theorem eff_min (T : Array TypeId) (x y : Operand) {d : D} (e : minD (ev C s x) (ev C s y) = some d) (hd : dstOk C.n dst) : Eff C ⟨dst, .call { callee := .builtin .min, args := #[x, y], argTypes := T }, ty, pos, after, gd⟩ s d [] (opT x ++ opT y) [] :=
  eff_pure hd fun σ hT hR a w ρ S Φ h1 h2 => by
    obtain ⟨e1, e2⟩ := opT2 (C := C) hT
    rw [← e1, ← e2] at e
    obtain ⟨v, h3, h4⟩ := minD_ok (P := C.P) (w := w) (T := T) (ty := ty) e (ev_rv h1 h2 x) (ev_rv h1 h2 y)
    exact ⟨v, by simp [execOp, resolve, invoke, builtin, h3], h4⟩
/-- What a nil check lets by. -/
def nckD (O : Nat → Ob) (d : D) : Option (Prop × List Nat) :=
  match d with
  | .ptr o g _ => some (g = (O o).sh.gen, [o])
  | .rop _ _ => some (True, [])
  | .rpf _ _ _ _ _ => some (True, [])
  | .rpb _ _ => some (True, [])
  | .fn _ => some (True, [])
  | .chunk _ _ _ => some (True, [])
  | _ => none
theorem eff_nck (x : Operand) {g : Prop} {R : List Nat} (e : nckD s.ob (ev C s x) = some (g, R)) (hg : g) (hd : dstOk C.n dst) : Eff C ⟨dst, .nilCheck x, ty, pos, after, gd⟩ s (ev C s x) [] (opT x) R :=
  eff_pure hd fun σ hT hR a w ρ S Φ h1 h2 => by
    have hv := ev_rv h1 h2 x
    have e1 := ev_same (C := C) hT
    rw [e1] at hv
    refine ⟨a.eval x, ?_, hv⟩
    unfold nckD at e
    split at e
    · rename_i o g' off heq
      injection e with e; injection e with e2 e3
      subst e2; subst e3
      rw [heq] at hv
      have := inv_ptr hv (by show g' = (σ.ob o).sh.gen; rw [hR o (by simp)]; exact hg)
      simp [execOp, this]
    · rename_i off cs heq
      rw [heq] at hv
      have : ∃ p, a.eval x = .pointer (some p) := by
        generalize a.eval x = v at hv
        cases hv
        exact ⟨_, rfl⟩
      obtain ⟨p, hp⟩ := this
      simp [execOp, hp]
    · rename_i heq
      rw [heq] at hv
      have : ∃ p, a.eval x = .pointer (some p) := by
        generalize a.eval x = v at hv
        cases hv
        exact ⟨_, rfl⟩
      obtain ⟨p, hp⟩ := this
      simp [execOp, hp]
    · rename_i heq
      rw [heq] at hv
      have : ∃ p, a.eval x = .pointer (some p) := by
        generalize a.eval x = v at hv
        cases hv
        exact ⟨_, rfl⟩
      obtain ⟨p, hp⟩ := this
      simp [execOp, hp]
    · rename_i f heq
      rw [heq] at hv
      have : a.eval x = .func (.func f) #[] #[] := by
        generalize a.eval x = v at hv
        cases hv
        rfl
      simp [execOp, this]
    · rename_i f l n heq
      rw [heq] at hv
      have : ∃ c, a.eval x = .func (.func f) #[] c := by
        generalize a.eval x = v at hv
        cases hv
        exact ⟨_, rfl⟩
      obtain ⟨c, hc⟩ := this
      simp [execOp, hc]
    · cases e
theorem eff_ext (x : Operand) (i : Nat) {cs : List D} (e : ev C s x = .tup cs) (hi : i < cs.length) (hd : dstOk C.n dst) : Eff C ⟨dst, .extract x i, ty, pos, after, gd⟩ s (cs.getD i .bot) [] (opT x) [] :=
  eff_pure hd fun σ hT hR a w ρ S Φ h1 h2 => by
    have hv := ev_rv h1 h2 x
    rw [ev_same (C := C) hT, e] at hv
    obtain ⟨vs, hvs, hl, hr⟩ := inv_tup hv
    have hiv : i < vs.length := by omega
    exact ⟨vs[i], by simp [execOp, hvs, Instr.extract, hiv], hr i _ _ (getD_some hi) (List.getElem?_eq_getElem hiv)⟩
end
end Go.Proofs.Ytpmbdppppnbmnaa
