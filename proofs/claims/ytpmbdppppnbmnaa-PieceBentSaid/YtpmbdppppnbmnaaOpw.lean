/- The effects of the operations that lay memory or write. Over any program. -/
import Derived.Test.YtpmbdppppnbmnaaOps
namespace Go.Proofs.Ytpmbdppppnbmnaa
open Go Go.RowKit
set_option linter.unusedVariables false
set_option linter.unusedSimpArgs false

/-- The object of that name, made anew. -/
def nob (s : St) (o esz : Nat) (c : Cont) : Ob := ⟨⟨(s.ob o).sh.gen + 1, esz, c.len⟩, some c⟩
theorem nob_nxt (s : St) (o esz : Nat) (c : Cont) : nob s o esz c = s.nxt o esz c := rfl

section
variable {C : Ctx} {s : St} {t : Nat} {ty : TypeId} {pos : String} {after : Array Edge} {gd : Option (Nat × Bool)}
theorem nob_same {σ : St} {o esz : Nat} {c : Cont} (h : σ.ob o = s.ob o) : σ.lay o (nob s o esz c) = σ.lay1 o esz c := by
  unfold St.lay1
  rw [← nob_nxt]
  unfold nob
  rw [h]
theorem run_v {P : Program} {w : World} (x : Sem Value) : (do pure (Next.value (← x)) : Sem Next).run P w = (x.run P w).andThen fun v w => .ok (.value v) w := by
  rw [Sem.run_bind]
  rfl
theorem gen_same {σ : St} {o : Nat} (h : σ.ob o = s.ob o) : (σ.sh o).gen = (s.ob o).sh.gen := by unfold St.sh; rw [h]

theorem eff_alloc (T : TypeId) {c : Cont} (e : boxC (tiOf C.P T).zero = some c) (hd : t < C.n) : Eff C ⟨some t, .alloc T, ty, pos, after, gd⟩ s (.ptr t ((s.ob t).sh.gen + 1) 0) [(t, nob s t (eszOf (tiOf C.P) T) c)] [] [t] :=
  eff_lay (dstOk_some hd) fun σ hT hR a w ρ S Φ h1 h2 => by
    refine ⟨_, run_v _, ?_⟩
    have h := alloc_ok h1 t e (eszOf (tiOf C.P) T)
    rw [nob_same (hR t (by simp)), ← gen_same (hR t (by simp))]
    exact h
theorem eff_box (T : TypeId) (x : Operand) {c : Cont} (e : boxC (ev C s x) = some c) (hd : t < C.n) : Eff C ⟨some t, .box T x, ty, pos, after, gd⟩ s (.ptr t ((s.ob t).sh.gen + 1) 0) [(t, nob s t (eszOf (tiOf C.P) T) c)] (opT x) [t] :=
  eff_lay (dstOk_some hd) fun σ hT hR a w ρ S Φ h1 h2 => by
    refine ⟨_, run_v _, ?_⟩
    rw [← ev_same (C := C) hT] at e
    have h := box_ok h1 t (t := T) e (ev_rv h1 h2 x) (eszOf (tiOf C.P) T)
    rw [nob_same (hR t (by simp)), ← gen_same (hR t (by simp))]
    exact h
/-- Parts, as operands. -/
def prts (C : Ctx) (s : St) (ps : Array (Nat × Operand)) : List (Nat × D) := ps.toList.map fun p => (p.1, ev C s p.2)
def prtsT (ps : Array (Nat × Operand)) : List Nat := ps.toList.flatMap fun p => opT p.2
theorem prts_same {σ : St} {ps : Array (Nat × Operand)} (h : ∀ t ∈ prtsT ps, σ.slot t = s.slot t) : prts C σ ps = prts C s ps := by
  unfold prts
  refine List.map_congr_left fun p hp => ?_
  rw [ev_same (C := C) (fun t ht => h t (List.mem_flatMap.2 ⟨p, hp, ht⟩))]
theorem prts_ok {σ : St} {a : Act} {w : World} {ρ : Nat → Pl} {S : Nat → Prop} {Φ : Nat → List Nat} (h1 : RepW C σ ρ S Φ w) (h2 : ∀ t, RV w S ρ σ.sh (σ.slot t) (a.tmps.getD t undef) []) (ps : Array (Nat × Operand)) :
    Parts w S ρ σ.sh (prts C σ ps) (ps.map fun (i, x) => (i, a.eval x)).toList := by
  refine ⟨by simp [prts], fun i p q h3 h4 => ?_⟩
  rw [Array.toList_map, List.getElem?_map] at h4
  unfold prts at h3
  rw [List.getElem?_map] at h3
  rcases hx : ps.toList[i]? with _ | z
  · rw [hx] at h3; cases h3
  · rw [hx] at h3 h4
    injection h3 with h3
    injection h4 with h4
    subst h3; subst h4
    exact ⟨rfl, ev_rv h1 h2 z.2⟩
theorem eff_build {dst : Option Tmp} (T : TypeId) (ps : Array (Nat × Operand)) {g : Prop} {d : D} (e : bldD (tiOf C.P) T (prts C s ps) = some (g, d)) (hg : g) (hd : dstOk C.n dst) : Eff C ⟨dst, .build T ps, ty, pos, after, gd⟩ s d [] (prtsT ps) [] :=
  eff_pure hd fun σ hT hR a w ρ S Φ h1 h2 => by
    rw [← prts_same (C := C) hT] at e
    obtain ⟨v, h3, h4⟩ := bld_ok (w := w) e hg (prts_ok h1 h2 ps)
    exact ⟨v, by simp only [execOp, Sem.run_bind, h3, Result.andThen_ok, Sem.run_pure], h4⟩
theorem eff_bslice (T : TypeId) (n : Nat) (ps : Array (Nat × Operand)) {g : Prop} {esz : Nat} {c : Cont} (e : bslD (tiOf C.P) T n (prts C s ps) = some (g, esz, c)) (hg : g) (hd : t < C.n) :
    Eff C ⟨some t, .buildSlice T n ps, ty, pos, after, gd⟩ s (.sl t ((s.ob t).sh.gen + 1) 0 n) [(t, nob s t esz c)] (prtsT ps) [t] :=
  eff_lay (dstOk_some hd) fun σ hT hR a w ρ S Φ h1 h2 => by
    refine ⟨_, run_v _, ?_⟩
    rw [← prts_same (C := C) hT] at e
    have h := bsl_ok h1 t (qs := ps.map fun (i, x) => (i, a.eval x)) e hg (prts_ok h1 h2 ps)
    rw [nob_same (hR t (by simp)), ← gen_same (hR t (by simp))]
    exact h
/-- 'make([]byte, n)' -/
theorem eff_make (T : TypeId) (x : Operand) {e0 : Nat} (ht : (tiOf C.P T).ty = .slice e0) (hz : (tiOf C.P e0).zero = .u8 0) (hs : (tiOf C.P e0).sz = 1) (hb : (tiOf C.P e0).by_ = 1) {k : IntKind} {n : Int} (e : ev C s x = .int k n) (h0 : 0 ≤ n) (h1' : n ≤ 140737488355328) (y : Operand) (e2 : ev C s y = .int k n) (hd : t < C.n) :
    Eff C ⟨some t, .makeSlice T x y, ty, pos, after, gd⟩ s (.sl t ((s.ob t).sh.gen + 1) 0 n.toNat) [(t, nob s t 1 (.bytes (List.replicate n.toNat 0)))] (opT x ++ opT y) [t] :=
  eff_lay (dstOk_some hd) fun σ hT hR a w ρ S Φ h1 h2 => by
    refine ⟨_, run_v _, ?_⟩
    obtain ⟨q1, q2⟩ := opT2 (C := C) hT
    have hx := inv_int (by have := ev_rv h1 h2 x; rw [q1, e] at this; exact this)
    have hy := inv_int (by have := ev_rv h1 h2 y; rw [q2, e2] at this; exact this)
    have h := mk_ok h1 t ht hz hs hb h0 h1' (k := k) (k' := k)
    rw [nob_same (hR t (by simp)), ← gen_same (hR t (by simp))]
    simp only [hx, hy]
    exact h
/-- '[]byte(s)' -/
theorem eff_s2b (T T' : TypeId) (x : Operand) {e0 : Nat} (ht : (tiOf C.P T).ty = .str) (ht' : (tiOf C.P T').ty = .slice e0) (he : (tiOf C.P e0).ty = .int .u8) {l : List UInt8} (e : ev C s x = .str l) (hl : l.length ≤ 140737488355328) (hd : t < C.n) :
    Eff C ⟨some t, .convert T T' x, ty, pos, after, gd⟩ s (.sl t ((s.ob t).sh.gen + 1) 0 l.length) [(t, nob s t 1 (.bytes l))] (opT x) [t] :=
  eff_lay (dstOk_some hd) fun σ hT hR a w ρ S Φ h1 h2 => by
    refine ⟨_, run_v _, ?_⟩
    have hx := inv_str (by have := ev_rv h1 h2 x; rw [ev_same (C := C) hT, e] at this; exact this)
    have h := s2b_ok h1 t ht ht' he hl
    rw [nob_same (hR t (by simp)), ← gen_same (hR t (by simp))]
    simp only [hx]
    exact h
theorem bsrc_loc {P : Program} {O O' : Nat → Ob} {T : TypeId} {y : D} {g : Prop} {l : List UInt8} {R : List Nat} (e : bsrc (tiOf P) O T y = some (g, l, R)) (h : ∀ o ∈ R, O' o = O o) : bsrc (tiOf P) O' T y = some (g, l, R) := by
  unfold bsrc at *
  split at e
  · exact e
  · exact byt_loc e h
  · cases e
theorem els_loc {O O' : Nat → Ob} {sz : Nat} {y : D} {g : Prop} {cs : List D} {n : Nat} {R : List Nat} (e : els O sz y = some (g, cs, n, R)) (h : ∀ o ∈ R, O' o = O o) : els O' sz y = some (g, cs, n, R) := by
  unfold els at *
  split at e
  · exact e
  · exact e
  · exact e
  · rename_i o g' off len
    have hR : R = [o] := by split at e <;> first | (injection e with e; injection e with e1 e2; injection e2 with e2 e3; injection e3 with e3 e4; exact e4.symm) | cases e
    subst hR
    rw [h o (by simp)]
    exact e
  · cases e
theorem apbD_loc {P : Program} {O O' : Nat → Ob} {t : Nat} {T T2 : TypeId} {x y : D} {g : Prop} {o : Nat} {c : Cont} {n : Nat} {R : List Nat} (e : apbD (tiOf P) O t T T2 x y = some (g, o, c, n, R)) (h : ∀ o ∈ R, O' o = O o) : apbD (tiOf P) O' t T T2 x y = some (g, o, c, n, R) ∧ o ∈ R := by
  unfold apbD at *
  split at e
  · rename_i el gy yl Ry ht hb
    split at e
    · injection e with e; injection e with e1 e2; injection e2 with e2 e3; injection e3 with e3 e4; injection e4 with e4 e5
      subst e1; subst e2; subst e3; subst e4; subst e5
      have hb' := bsrc_loc (O' := O') hb (fun o ho => h o (by simp [ho]))
      simp only [ht, hb']
      simp
    · rename_i o' g' off len
      split at e
      · rename_i l ho
        injection e with e; injection e with e1 e2; injection e2 with e2 e3; injection e3 with e3 e4; injection e4 with e4 e5
        subst e1; subst e2; subst e3; subst e4; subst e5
        have hb' := bsrc_loc (O' := O') hb (fun o ho => h o (by simp [ho]))
        simp only [ht, hb', h o' (by simp), ho]
        simp
      · cases e
    · cases e
  · cases e
theorem apcD_loc {P : Program} {O O' : Nat → Ob} {t : Nat} {T T2 : TypeId} {x y : D} {g : Prop} {o esz : Nat} {c : Cont} {n : Nat} {R : List Nat} (e : apcD (tiOf P) O t T T2 x y = some (g, o, esz, c, n, R)) (h : ∀ o ∈ R, O' o = O o) : apcD (tiOf P) O' t T T2 x y = some (g, o, esz, c, n, R) ∧ o ∈ R := by
  unfold apcD at *
  split at e
  · rename_i el ht
    split at e
    · rename_i gy ys ny Ry he
      split at e
      · injection e with e; injection e with e1 e2; injection e2 with e2 e3; injection e3 with e3 e4; injection e4 with e4 e5; injection e5 with e5 e6
        subst e1; subst e2; subst e3; subst e4; subst e5; subst e6
        have he' := els_loc (O' := O') he (fun o ho => h o (by simp [ho]))
        simp only [ht, he']
        simp
      · rename_i o' g' off len
        split at e
        · rename_i cs ho
          injection e with e; injection e with e1 e2; injection e2 with e2 e3; injection e3 with e3 e4; injection e4 with e4 e5; injection e5 with e5 e6
          subst e1; subst e2; subst e3; subst e4; subst e5; subst e6
          have he' := els_loc (O' := O') he (fun o ho => h o (by simp [ho]))
          simp only [ht, he', h o' (by simp), ho]
          simp
        · cases e
      · cases e
    · cases e
  · cases e
theorem cpbD_loc {P : Program} {O O' : Nat → Ob} {T T2 : TypeId} {x y : D} {g : Prop} {o : Nat} {b : Ob} {d : D} {R : List Nat} (e : cpbD (tiOf P) O T T2 x y = some (g, o, b, d, R)) (h : ∀ o ∈ R, O' o = O o) : cpbD (tiOf P) O' T T2 x y = some (g, o, b, d, R) := by
  unfold cpbD at *
  split at e
  · rename_i el gy yl Ry o' g' off len ht hb
    split at e
    · rename_i l ho
      injection e with e; injection e with e1 e2; injection e2 with e2 e3; injection e3 with e3 e4; injection e4 with e4 e5
      subst e1; subst e2; subst e3; subst e4; subst e5
      have hb' := bsrc_loc (O' := O') hb (fun o ho => h o (by simp [ho]))
      simp only [ht, hb', h o' (by simp), ho]
    · cases e
  · cases e
theorem stoD_loc {P : Program} {O O' : Nat → Ob} {t : TypeId} {x y : D} {g : Prop} {o : Nat} {b : Ob} {R : List Nat} (e : stoD (tiOf P) O t x y = some (g, o, b, R)) (h : ∀ o ∈ R, O' o = O o) : stoD (tiOf P) O' t x y = some (g, o, b, R) := by
  unfold stoD at *
  split at e
  · rename_i o' g' off
    have hR : R = [o'] := by
      split at e
      · injection e with e; injection e with e1 e2; injection e2 with e2 e3; injection e3 with e3 e4; exact e4.symm
      · injection e with e; injection e with e1 e2; injection e2 with e2 e3; injection e3 with e3 e4; exact e4.symm
      · split at e <;> (injection e with e; injection e with e1 e2; injection e2 with e2 e3; injection e3 with e3 e4; exact e4.symm)
      · cases e
    subst hR
    rw [h o' (by simp)]
    exact e
  · cases e
theorem eff_apb {dst : Option Tmp} (T T2 : TypeId) (x y : Operand) {g : Prop} {o : Nat} {c : Cont} {n : Nat} {R : List Nat} (e : apbD (tiOf C.P) s.ob (dst.getD 0) T T2 (ev C s x) (ev C s y) = some (g, o, c, n, R)) (hg : g) (hd : dstOk C.n dst) :
    Eff C ⟨dst, .call { callee := .builtin .append, args := #[x, y], argTypes := #[T, T2] }, ty, pos, after, gd⟩ s (.sl o ((s.ob o).sh.gen + 1) 0 n) [(o, nob s o 1 c)] (opT x ++ opT y) R :=
  eff_lay hd fun σ hT hR a w ρ S Φ h1 h2 => by
    obtain ⟨q1, q2⟩ := opT2 (C := C) hT
    rw [← q1, ← q2] at e
    obtain ⟨e', ho⟩ := apbD_loc e hR
    have h := apb_ok (ty := ty) h1 e' hg (ev_rv h1 h2 x) (ev_rv h1 h2 y)
    rw [nob_same (hR o ho), ← gen_same (hR o ho)]
    exact ⟨_, by simp [execOp, resolve, invoke, builtin], h⟩
theorem eff_apc {dst : Option Tmp} (T T2 : TypeId) (x y : Operand) {g : Prop} {o esz : Nat} {c : Cont} {n : Nat} {R : List Nat} (e : apcD (tiOf C.P) s.ob (dst.getD 0) T T2 (ev C s x) (ev C s y) = some (g, o, esz, c, n, R)) (hg : g) (hd : dstOk C.n dst) :
    Eff C ⟨dst, .call { callee := .builtin .append, args := #[x, y], argTypes := #[T, T2] }, ty, pos, after, gd⟩ s (.sl o ((s.ob o).sh.gen + 1) 0 n) [(o, nob s o esz c)] (opT x ++ opT y) R :=
  eff_lay hd fun σ hT hR a w ρ S Φ h1 h2 => by
    obtain ⟨q1, q2⟩ := opT2 (C := C) hT
    rw [← q1, ← q2] at e
    obtain ⟨e', ho⟩ := apcD_loc e hR
    have h := apc_ok (ty := ty) h1 e' hg (ev_rv h1 h2 x) (ev_rv h1 h2 y)
    rw [nob_same (hR o ho), ← gen_same (hR o ho)]
    exact ⟨_, by simp [execOp, resolve, invoke, builtin], h⟩
theorem eff_cpb {dst : Option Tmp} (T T2 : TypeId) (x y : Operand) {g : Prop} {o : Nat} {b : Ob} {d : D} {R : List Nat} (e : cpbD (tiOf C.P) s.ob T T2 (ev C s x) (ev C s y) = some (g, o, b, d, R)) (hg : g) (hd : dstOk C.n dst) :
    Eff C ⟨dst, .call { callee := .builtin .copy, args := #[x, y], argTypes := #[T, T2] }, ty, pos, after, gd⟩ s d [(o, b)] (opT x ++ opT y) R :=
  eff_lay hd fun σ hT hR a w ρ S Φ h1 h2 => by
    obtain ⟨q1, q2⟩ := opT2 (C := C) hT
    rw [← q1, ← q2] at e
    have h := cpb_ok (ty := ty) h1 (cpbD_loc e hR) hg (ev_rv h1 h2 x) (ev_rv h1 h2 y)
    exact ⟨_, by simp [execOp, resolve, invoke, builtin], h⟩
theorem eff_mk {dst : Option Tmp} (T T' : TypeId) (x : Operand) {g : Prop} {o : Nat} {b : Ob} {d : D} {R : List Nat} (e : mkD (tiOf C.P) s.ob T T' (ev C s x) = some (g, o, b, d, R)) (hg : g) (hd : dstOk C.n dst) :
    Eff C ⟨dst, .convert T T' x, ty, pos, after, gd⟩ s d [(o, b)] (opT x) R :=
  eff_lay hd fun σ hT hR a w ρ S Φ h1 h2 => by
    rw [← ev_same hT] at e
    have h := mrk_ok h1 (mkD_loc e hR) hg (ev_rv h1 h2 x)
    exact ⟨_, by simp [execOp], h⟩
theorem eff_store (T : TypeId) (x y : Operand) {g : Prop} {o : Nat} {b : Ob} {R : List Nat} (e : stoD (tiOf C.P) s.ob T (ev C s x) (ev C s y) = some (g, o, b, R)) (hg : g) :
    Eff C ⟨none, .store T x y, ty, pos, after, gd⟩ s .bot [(o, b)] (opT x ++ opT y) R := by
  intro σ hT hR K Q a w hrep hK
  obtain ⟨h1, h2, ρ, S, Φ, h3, h4⟩ := hrep
  obtain ⟨q1, q2⟩ := opT2 (C := C) hT
  rw [← q1, ← q2] at e
  obtain ⟨w', Φ', k1, k2, k3⟩ := sto_ok h3 (stoD_loc e hR) hg (ev_rv h3 h4 x) (ev_rv h3 h4 y)
  exact wp_skip_ (w' := w') (by simp [execOp, k1]) (hK _ _ (rep_put (s' := σ.lay o b) h1 h2 k2 (fun t => k3 _ _ (h4 t)) none dstOk_none .bot undef (.bot _)))
end
end Go.Proofs.Ytpmbdppppnbmnaa
