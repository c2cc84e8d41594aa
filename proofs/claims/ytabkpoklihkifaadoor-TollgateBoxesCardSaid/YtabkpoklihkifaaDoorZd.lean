/- What the claim leans on, text Zd: Cel, Wd, Law, Arg, Args, Clone, Apo, Nil. No condition beyond what each lemma states. -/
import Derived.Test.YtabkpoklihkifaaDoorZk
import Derived.ChangeSlices
import Derived.ProofKit
import Derived.OpenShut
import Derived.Test.YtabkpoklihkifaaDoorChecked
import Derived.Test.YtabkpoklihkifaaDoorZc
import Derived.BigQuiet
import Derived.Deep.QuietTactic
import Derived.Deep.RegionHeld3
import Derived.Deep.DeepFit

/- Functions whose result stands in a cell; calls known otherwise, as contracts. Over any program. -/
namespace Go.Proofs.YtabkpoklihkifaaDoor
open Go Go.RowKit
set_option linter.unusedVariables false
set_option linter.unusedSimpArgs false

section
variable {C : Ctx} {s : St} {a : Act} {w : World}
theorem load_addr {P : Program} {t : TypeId} {v v' : Value} (h : (Instr.loadAt t v).run P w = .ok v' w) : (do loadVar t (← asAddr v)).run P w = .ok v' w := by
  cases v with
  | pointer p =>
    cases p with
    | some q => simpa [Instr.loadAt, Instr.sureAddr, asAddr] using h
    | none => simp [Instr.loadAt, Instr.sureAddr] at h
  | _ => simp [Instr.loadAt, Instr.sureAddr] at h
theorem rep_ld {t ty : Nat} {g : Prop} {d : D} {R : List Nat} (hr : Rep C s a w) (e : ldD (tiOf C.P) s.ob ty (s.slot t) = some (g, d, R)) (hg : g) (ht : t < C.n) :
    ∃ v, (do loadVar ty (← asAddr (a.tmps.getD t undef))).run C.P w = .ok v w ∧ Rep C (s.put t d) { a with tmps := a.tmps.setIfInBounds t v } w := by
  obtain ⟨h1, h2, ρ, S, Φ, h3, h4⟩ := hr
  obtain ⟨v, k1, k2⟩ := ldD_ok h3 e hg (h4 t)
  exact ⟨v, load_addr k1, rep_put (t := some t) h1 h2 h3 h4 (fun x hx => by injection hx with hx; subst hx; exact ht) d v k2⟩
theorem run_results1 {fn : Func} {t ty : Nat} {v : Value} {tmps : Array Value} {P : Program} (h : fn.results = #[.cell t ty]) (hv : (do loadVar ty (← asAddr (tmps.getD t undef))).run P w = .ok v w) : (results fn tmps).run P w = .ok v w := by
  simp only [results, h]
  simp [Array.mapM_eq_mapM_toList]
  rw [← Array.getD_eq_getD_getElem?, ← Sem.run_bind]
  exact hv
end
structure RetC (Ti : Nat → TI) (t ty : Nat) (res : D) (outs : Option (List D)) (e : Exit) (s : St) : Prop where
  e : e = .normal ∨ e = .ret
  fin : ∃ g d R, ldD Ti s.ob ty (s.slot t) = some (g, d, R) ∧ g ∧ Fin [t] res outs (s.put t d)
theorem leaves_marksE {P : Program} {fn : Func} {n : Nat} {tmps : Array Value} {R : Ending → World → Prop} : ∀ (l : List Nat) (w : World), l.Nodup → (∀ r ∈ l, w.heap[r]? = some (.deferred (some []))) →
    (∀ w', w'.os = w.os → w'.tape = w.tape → w'.output = w.output → w'.heap.size = w.heap.size → (∀ b, b ∉ l → w'.heap[b]? = w.heap[b]?) → ∃ v, (results fn tmps).run P w' = .ok v w' ∧ R (.returned v) w') → LeavesInM Fence.wide n P fn tmps R (dfl l) .returning w
  | [], w, _, _, h => by
    obtain ⟨v, h1, h2⟩ := h w rfl rfl rfl rfl (fun _ _ => rfl)
    exact ⟨v, h1, h2⟩
  | r :: l, w, hn, hd, h => by
    have hr := hd r (by simp)
    refine ⟨by simp, .inl ⟨r, _, rfl, run_takeDeferred hr, ?_⟩⟩
    rw [List.nodup_cons] at hn
    refine leaves_marksE l _ hn.2 (fun x hx => ?_) (fun w' h1 h2 h3 h4 h5 => ?_)
    · rw [World.putObj_heap_other (by rintro rfl; exact hn.1 hx)]
      exact hd x (by simp [hx])
    · refine h w' h1 h2 h3 (h4.trans (by simp)) (fun b hb => ?_)
      simp only [List.mem_cons, not_or] at hb
      rw [h5 b hb.2, World.putObj_heap_other (by first | exact hb.1 | exact fun e => hb.1 e.symm)]
theorem fc_ofc {P : Program} {Ti : Nat → TI} {G : Nat → Option D} {f : Nat} {fn : Func} {c : Code} {ins : List D} {res : D} {outs : Option (List D)} {t ty : Nat} (hti : tiOf P = Ti) (gp : ∀ g cs, G g = some cs → cs.pf0 = true)
    (hf : P.funcs[f]? = some fn) (hb : fn.body = some c) (hrs : fn.results = #[.cell t ty]) (ht : t < fn.ntmps) (hn : ins.length ≤ fn.ntmps) (had : D.adL ins = true) (ho : OutOk ins outs)
    (h : ∀ C, CxOk P Ti G fn.ntmps outs C → VC C c (inSt ins) (RetC Ti t ty res outs)) : FC P G f ins res outs := by
  intro w S vs Fs hS hG h1 h2 h3 h4 h5
  refine (callsIn_wide (n := 3)).1 (callsIn_of_wp_marks hf hb trivial ?_)
  have hrep := in_rep (P := P) (n := fn.ntmps) (outs := outs) gp had hn ho hS hG h1 h2 h3 h4 h5
  have hw := h _ ⟨⟨hti, rfl, rfl⟩, rfl, fun e d v h => (by subst e; have h' : (none : Option (List D)).isSome = true ∧ _ := h; cases h'.1), fun d v h => (show _ ∧ d = .ptr 900 1 0 ∧ _ from h).2.1, rfl⟩ 3 _ _ hrep
  have e : vs.toArray.size = vs.length := by simp
  rw [e]
  refine wpIn_mono hw ?_
  rintro e a' w' ⟨s', k1, k2, g, d, R, m1, m2, k3⟩
  have key : LeavesInM Fence.wide 3 P fn a'.tmps (FCPost w S (vs.getD 0 undef) Fs.flatten res outs) a'.defers .returning w' := by
    obtain ⟨_, _, ρ, S', Φ, r, hsl⟩ := id k1
    rw [k1.1]
    refine leaves_marksE s'.dk w' r.dkn.1 r.dk (fun w'' e1 e2 e3 e4 e5 => ?_)
    have k1' := rep_undk k1 e1 e2 e3 e4 e5
    obtain ⟨v, q1, q2⟩ := rep_ld (t := t) (ty := ty) (g := g) (d := d) (R := R) k1' (by rw [show tiOf _ = Ti from hti]; exact m1) m2 ht
    have hk : Fin [t] res outs ((⟨s'.sl, s'.hp, []⟩ : St).put t d) := by
      obtain ⟨own, fro, g1, g2, _, g4⟩ := k3
      refine ⟨own, fro, g1, g2, rfl, ?_⟩
      rcases outs with _ | cs
      · exact g4.loc (σ := (⟨s'.sl, s'.hp, []⟩ : St).put t d) (fun _ _ => rfl)
      · exact g4.loc (σ := (⟨s'.sl, s'.hp, []⟩ : St).put t d) (fun _ _ => rfl)
    refine ⟨v, run_results1 hrs q1, ?_⟩
    have := fin_post q2 hk (vs.getD 0 undef) (fun hs => ⟨hs, rfl, rfl⟩)
    have hsz : t < a'.tmps.size := by
      have := k1.2.1
      rw [this]
      exact ht
    have e : resV [t] (a'.tmps.setIfInBounds t v) = v := by
      show (a'.tmps.setIfInBounds t v).getD t undef = v
      rw [getD_set hsz, if_pos rfl]
    simp only [e] at this
    exact this
  rcases k2 with rfl | rfl
  · exact key
  · exact key
theorem fc_inc {P : Program} {Ti : Nat → TI} {G : Nat → Option D} {f : Nat} {fn : Func} {c : Code} {ins : List D} {res : D} {outs : Option (List D)} {t ty : Nat} {s0 : St} (hti : tiOf P = Ti) (gp : ∀ g cs, G g = some cs → cs.pf0 = true)
    (hf : P.funcs[f]? = some fn) (hb : fn.body = some c) (hrs : fn.results = #[.cell t ty]) (ht : Nat.blt t fn.ntmps = true) (hn : Nat.ble ins.length fn.ntmps = true) (had : D.adL ins = true) (ho : OutOk ins outs) (hi : inSt ins = s0)
    (h : ∀ C, CxOk P Ti G fn.ntmps outs C → VC C c s0 (RetC Ti t ty res outs)) : FC P G f ins res outs := by
  subst hi
  exact fc_ofc hti gp hf hb hrs (by simpa [Nat.blt_eq] using ht) (Nat.le_of_ble_eq_true hn) had ho h
theorem fn_nc {Ti : Nat → TI} {t ty : Nat} {res : D} {outs : Option (List D)} {s s' : St} {g : Prop} {d d' : D} {R : List Nat} (e : ldD Ti s.ob ty (s.slot t) = some (g, d, R)) (hd : d = d') (hg : g) (hs : s.put t d' = s') (h : Fin [t] res outs s') : RetC Ti t ty res outs .normal s := ⟨.inl rfl, g, d, R, e, hg, by rw [hd, hs]; exact h⟩
theorem fn_rc {Ti : Nat → TI} {t ty : Nat} {res : D} {outs : Option (List D)} {s s' : St} {g : Prop} {d d' : D} {R : List Nat} (e : ldD Ti s.ob ty (s.slot t) = some (g, d, R)) (hd : d = d') (hg : g) (hs : s.put t d' = s') (h : Fin [t] res outs s') : RetC Ti t ty res outs .ret s := ⟨.inr rfl, g, d, R, e, hg, by rw [hd, hs]; exact h⟩
/-- A call that is known otherwise, and leaves all that was there as it was. -/
theorem fc_calls {P : Program} {G : Nat → Option D} {f : Nat} {ins : List D} {res : D} (hf : ins.all D.pf = true)
    (h : ∀ (w : World) (S : Nat → Prop) (vs : List Value), SOk w S → GlOk G w S → vs.length = ins.length → (∀ (i : Nat) (d : D) (v : Value), ins[i]? = some d → vs[i]? = some v → NV w S d v []) →
      Calls P f vs.toArray w fun e w' => ∃ v F, e = .returned v ∧ Below w.heap.size w w' ∧ NV w' S res v F ∧ F.Nodup ∧ ∀ b ∈ F, w.heap.size ≤ b ∧ b < w'.heap.size) : FC P G f ins res none := by
  intro w S vs Fs hS hG h1 h2 h3 h4 h5
  have hnil : ∀ (i : Nat) (F : List Nat), Fs[i]? = some F → F = [] := fun i F hF => by
    have hi : i < Fs.length := (List.getElem?_eq_some_iff.1 hF).1
    have hd := List.getElem?_eq_getElem (l := ins) (i := i) (by omega)
    exact (pf_nv (ρ' := ρ0) (H' := H0) (all_get hf hd) (h3 i _ _ F hd (List.getElem?_eq_getElem (by omega)) hF)).1
  have hfl : Fs.flatten = [] := flat_of_nil hnil
  refine (h w S vs hS hG h1 (fun i d v e1 e2 => ?_)).mono ?_
  · have hi : i < ins.length := (List.getElem?_eq_some_iff.1 e1).1
    have hF := List.getElem?_eq_getElem (l := Fs) (i := i) (by omega)
    have := h3 i d v _ e1 e2 hF
    rw [hnil i _ hF] at this
    exact this
  rintro e w' ⟨v, F, rfl, hb, hv, hn, hF⟩
  refine ⟨v, F, [], S, rfl, hb.os, hb.tape, hb.output, hb.size, Szs.same fun b hlt => hb.block b hlt, fun b hlt _ => hb.block b hlt, fun _ h => h, fun b hb' => ⟨Nat.lt_of_lt_of_le (hS.lt hb') hb.size, .inl hb'⟩, hS.same fun b hb' => hb.block b (hS.lt hb'), hv, rfl, by simpa using hn, fun b hbF => ?_⟩
  rw [List.append_nil] at hbF
  obtain ⟨k1, k2⟩ := hF b hbF
  exact ⟨fun hSb => by have := hS.lt hSb; omega, k2, .inl k1⟩
/-- A nil slice is as an empty object. -/
theorem kniln {C : Ctx} {sl : List (Nat × D)} {hp : List (Nat × Ob)} {dk : List Nat} (t o esz : Nat) {g : Nat} {c : Cont} (hc : c.len = 0) (he : frc (look .bot sl t) = some .nilS) (hg : ((⟨sl, hp, dk⟩ : St).sh o).gen + 1 = g) :
    Wk C ⟨sl, hp, dk⟩ ⟨(t, .sl o g 0 0) :: sl, (o, ⟨⟨g, esz, 0⟩, some c⟩) :: hp, dk⟩ := by
  subst hg
  rintro a w ⟨h1, h2, ρ, S, Φ, h3, h4⟩
  obtain ⟨k1, k2, k3⟩ := lay_there h3 o esz c (F := []) (X := []) aside_nil ⟨0, 0, 0⟩ ⟨rfl, .inl ⟨hc, rfl, rfl⟩⟩
  have es : (⟨sl, hp, dk⟩ : St).lay1 o esz c = ⟨sl, (o, ⟨⟨((⟨sl, hp, dk⟩ : St).sh o).gen + 1, esz, 0⟩, some c⟩) :: hp, dk⟩ := by
    unfold St.lay1 St.nxt St.lay
    rw [hc]
  rw [es] at k1 k2
  refine ⟨h1, h2, _, S, _, k1.congr (fun _ => rfl) rfl, fun t' => ?_⟩
  show RV w S _ _ (look .bot ((t, _) :: sl) t') _ []
  rw [look]
  split
  · rename_i ht
    subst ht
    have hv := h4 t
    rw [show (⟨sl, hp, dk⟩ : St).slot t = .nilS from frc_ok he] at hv
    rw [inv_nilS hv]
    have hsh : ((⟨(t, .sl o (((⟨sl, hp, dk⟩ : St).sh o).gen + 1) 0 0) :: sl, (o, ⟨⟨((⟨sl, hp, dk⟩ : St).sh o).gen + 1, esz, 0⟩, some c⟩) :: hp, dk⟩ : St).sh o) = ⟨((⟨sl, hp, dk⟩ : St).sh o).gen + 1, esz, 0⟩ := by simp [St.sh, St.ob, look]
    refine .sl _ _ _ _ _ rfl (by rw [hsh]; exact Nat.le_refl _) (fun _ => ⟨none, 0, rfl, Nat.le_refl _, by simp [maxLen], by rw [hsh]; simp, .inl ⟨rfl, rfl⟩⟩)
  · exact k2 _ _ (h4 t')
theorem mat0 {s : St} : Mat s (resD [] s) (.tup []) [] [] := .tnil
/-! Two results that stand in cells. -/
theorem run_results2 {w : World} {fn : Func} {t ty t' ty' : Nat} {v v' : Value} {tmps : Array Value} {P : Program} (h : fn.results = #[.cell t ty, .cell t' ty']) (hv : (do loadVar ty (← asAddr (tmps.getD t undef))).run P w = .ok v w) (hv' : (do loadVar ty' (← asAddr (tmps.getD t' undef))).run P w = .ok v' w) : (results fn tmps).run P w = .ok (.tuple #[v, v']) w := by
  simp only [results, h]
  have e1 : (asAddr (tmps.getD t undef) >>= fun a => loadVar ty a).run P w = .ok v w := hv
  have e2 : (asAddr (tmps.getD t' undef) >>= fun a => loadVar ty' a).run P w = .ok v' w := hv'
  simp only [Array.mapM_eq_mapM_toList, List.mapM_cons, List.mapM_nil, map_eq_pure_bind, bind_assoc, pure_bind]
  rw [← bind_assoc, Sem.run_bind, e1]
  show Sem.run P _ w = _
  rw [← bind_assoc, Sem.run_bind, e2]
  rfl
structure RetC2 (Ti : Nat → TI) (t ty t' ty' : Nat) (res : D) (outs : Option (List D)) (e : Exit) (s : St) : Prop where
  e : e = .normal ∨ e = .ret
  fin : ∃ g d R g' d' R', ldD Ti s.ob ty (s.slot t) = some (g, d, R) ∧ g ∧ ldD Ti s.ob ty' (s.slot t') = some (g', d', R') ∧ g' ∧ Fin [t, t'] res outs ((s.put t d).put t' d')
theorem fc_ofc2 {P : Program} {Ti : Nat → TI} {G : Nat → Option D} {f : Nat} {fn : Func} {c : Code} {ins : List D} {res : D} {outs : Option (List D)} {t ty t' ty' : Nat} (hti : tiOf P = Ti) (gp : ∀ g cs, G g = some cs → cs.pf0 = true)
    (hf : P.funcs[f]? = some fn) (hb : fn.body = some c) (hrs : fn.results = #[.cell t ty, .cell t' ty']) (ht : t < fn.ntmps) (ht' : t' < fn.ntmps) (hne : t ≠ t') (hn : ins.length ≤ fn.ntmps) (had : D.adL ins = true) (ho : OutOk ins outs)
    (h : ∀ C, CxOk P Ti G fn.ntmps outs C → VC C c (inSt ins) (RetC2 Ti t ty t' ty' res outs)) : FC P G f ins res outs := by
  intro w S vs Fs hS hG h1 h2 h3 h4 h5
  refine (callsIn_wide (n := 3)).1 (callsIn_of_wp_marks hf hb trivial ?_)
  have hrep := in_rep (P := P) (n := fn.ntmps) (outs := outs) gp had hn ho hS hG h1 h2 h3 h4 h5
  have hw := h _ ⟨⟨hti, rfl, rfl⟩, rfl, fun e d v h => (by subst e; have h' : (none : Option (List D)).isSome = true ∧ _ := h; cases h'.1), fun d v h => (show _ ∧ d = .ptr 900 1 0 ∧ _ from h).2.1, rfl⟩ 3 _ _ hrep
  have e : vs.toArray.size = vs.length := by simp
  rw [e]
  refine wpIn_mono hw ?_
  rintro e a' w' ⟨s', k1, k2, g, d, R, g', d', R', m1, m2, m1', m2', k3⟩
  have key : LeavesInM Fence.wide 3 P fn a'.tmps (FCPost w S (vs.getD 0 undef) Fs.flatten res outs) a'.defers .returning w' := by
    obtain ⟨_, _, ρ, S', Φ, r, hsl⟩ := id k1
    rw [k1.1]
    refine leaves_marksE s'.dk w' r.dkn.1 r.dk (fun w'' e1 e2 e3 e4 e5 => ?_)
    have k1' := rep_undk k1 e1 e2 e3 e4 e5
    obtain ⟨v, q1, q2⟩ := rep_ld (t := t) (ty := ty) (g := g) (d := d) (R := R) k1' (by rw [show tiOf _ = Ti from hti]; exact m1) m2 ht
    have hslot : ((⟨s'.sl, s'.hp, []⟩ : St).put t d).slot t' = s'.slot t' := by rw [St.slot_put, if_neg (fun e => hne e.symm)]; rfl
    obtain ⟨v', q1', q2'⟩ := rep_ld (t := t') (ty := ty') (g := g') (d := d') (R := R') q2 (by rw [show tiOf _ = Ti from hti, hslot]; exact m1') m2' ht'
    have hsz : ∀ x, x < fn.ntmps → x < a'.tmps.size := fun x hx => by
      have := k1.2.1
      rw [this]
      exact hx
    have q1'' : (do loadVar ty' (← asAddr (a'.tmps.getD t' undef))).run P w'' = .ok v' w'' := by
      have : (a'.tmps.setIfInBounds t v).getD t' undef = a'.tmps.getD t' undef := by rw [getD_set (hsz t ht), if_neg (fun e => hne e.symm)]
      rw [← this]
      exact q1'
    have hk : Fin [t, t'] res outs (((⟨s'.sl, s'.hp, []⟩ : St).put t d).put t' d') := by
      obtain ⟨own, fro, g1, g2, _, g4⟩ := k3
      refine ⟨own, fro, g1, g2, rfl, ?_⟩
      rcases outs with _ | cs
      · exact g4.loc (σ := ((⟨s'.sl, s'.hp, []⟩ : St).put t d).put t' d') (fun _ _ => rfl)
      · exact g4.loc (σ := ((⟨s'.sl, s'.hp, []⟩ : St).put t d).put t' d') (fun _ _ => rfl)
    refine ⟨.tuple #[v, v'], run_results2 hrs q1 q1'', ?_⟩
    have := fin_post q2' hk (vs.getD 0 undef) (fun hs => ⟨hs, rfl, rfl⟩)
    have e : resV [t, t'] ((a'.tmps.setIfInBounds t v).setIfInBounds t' v') = .tuple #[v, v'] := by
      show Value.tuple #[((a'.tmps.setIfInBounds t v).setIfInBounds t' v').getD t undef, ((a'.tmps.setIfInBounds t v).setIfInBounds t' v').getD t' undef] = _
      have f1 : ((a'.tmps.setIfInBounds t v).setIfInBounds t' v').getD t undef = v := by
        rw [getD_set (t := t') (by simpa using hsz t' ht') t, if_neg hne, getD_set (hsz t ht), if_pos rfl]
      have f2 : ((a'.tmps.setIfInBounds t v).setIfInBounds t' v').getD t' undef = v' := by
        rw [getD_set (t := t') (by simpa using hsz t' ht') t', if_pos rfl]
      rw [f1, f2]
    simp only [e] at this
    exact this
  rcases k2 with rfl | rfl
  · exact key
  · exact key
theorem fc_inc2 {P : Program} {Ti : Nat → TI} {G : Nat → Option D} {f : Nat} {fn : Func} {c : Code} {ins : List D} {res : D} {outs : Option (List D)} {t ty t' ty' : Nat} {s0 : St} (hti : tiOf P = Ti) (gp : ∀ g cs, G g = some cs → cs.pf0 = true)
    (hf : P.funcs[f]? = some fn) (hb : fn.body = some c) (hrs : fn.results = #[.cell t ty, .cell t' ty']) (ht : (Nat.blt t fn.ntmps && Nat.blt t' fn.ntmps && !(Nat.beq t t')) = true) (hn : Nat.ble ins.length fn.ntmps = true) (had : D.adL ins = true) (ho : OutOk ins outs) (hi : inSt ins = s0)
    (h : ∀ C, CxOk P Ti G fn.ntmps outs C → VC C c s0 (RetC2 Ti t ty t' ty' res outs)) : FC P G f ins res outs := by
  subst hi
  simp only [Bool.and_eq_true, Nat.blt_eq, Bool.not_eq_true'] at ht
  exact fc_ofc2 hti gp hf hb hrs ht.1.1 ht.1.2 (fun e => by have := ht.2; rw [e] at this; simp at this) (Nat.le_of_ble_eq_true hn) had ho h
theorem fn_rc2 {Ti : Nat → TI} {t ty t' ty' : Nat} {res : D} {outs : Option (List D)} {s s' : St} {g g' : Prop} {d d1 d' d1' : D} {R R' : List Nat} (e : ldD Ti s.ob ty (s.slot t) = some (g, d, R)) (e' : ldD Ti s.ob ty' (s.slot t') = some (g', d', R')) (hd : d = d1) (hd' : d' = d1') (hg : g) (hg' : g') (hs : (s.put t d1).put t' d1' = s') (h : Fin [t, t'] res outs s') : RetC2 Ti t ty t' ty' res outs .ret s :=
  ⟨.inr rfl, g, d, R, g', d', R', e, hg, e', hg', by rw [hd, hd', hs]; exact h⟩
/-- A slice of slices of bytes, lent as a row of rows. -/
theorem mat_rf {s : St} {o g len len' : Nat} {cs : List D} {ps : List (List UInt8)} {own fro : List Nat} (ho : (s.ob o).ct = some (.cells cs)) (hg : g = (s.sh o).gen) (he : (s.sh o).esz = 1) (hlen : len = len') (hl : ps.length = len') (hc : cs.length = len') (hsc : cs.all D.sc = true) (h : Mat s (.tup cs) (.tup (ps.map D.rob)) own fro) (h0 : own = []) : Mat s (.sl o g 0 len) (.rof 1 len' (fun i _ => .rob (ps.getD i []))) [] (o :: fro) := by
  subst hlen
  subst h0
  refine .cnv _ (.ros 1 len (ps.map D.rob)) _ _ _ (.sl_rs o g 0 len 1 cs (ps.map D.rob) fro ho hg he (by decide) ?_ ?_) (ros_rof fun i j hi hj => ?_)
  · rw [Nat.mul_one, ← hc, List.drop_zero, List.take_length]; exact hsc
  · rw [Nat.mul_one, ← hc, List.drop_zero, List.take_length]; exact h
  · obtain rfl : j = 0 := by omega
    rw [Nat.mul_one, Nat.add_zero]
    exact ⟨by rw [List.getElem?_map, List.getElem?_eq_getElem (by omega), List.getD_eq_getElem?_getD, List.getElem?_eq_getElem (by omega)]; rfl, rfl⟩
theorem mat_rf0 {s : St} {ps : List (List UInt8)} (h : ps = []) : Mat s .nilS (.rof 1 ps.length (fun i _ => .rob (ps.getD i []))) [] [] := by
  subst h
  exact .cnv _ (.ros 1 0 []) _ _ _ (.nil_rs 1) (ros_rof fun i j hi => absurd hi (by omega))
theorem mat_trob {s : St} {ps : List (List UInt8)} : Mat s (.tup (ps.map D.rob)) (.tup (ps.map D.rob)) [] [] := .tall _ (by rw [List.all_map]; exact List.all_eq_true.2 fun _ _ => rfl)
theorem drop_rep {α : Type} (n : Nat) (x : α) : List.drop n (List.replicate n x) = [] := by simp
end Go.Proofs.YtabkpoklihkifaaDoor

/- The rules of walks with their side conditions as default arguments: what each rule asks beside its one great premise is shown by the tactic that stands there. Over any program. Printed by mkwd.py. -/
namespace Go.Proofs.YtabkpoklihkifaaDoor
open Go Go.RowKit
set_option linter.unusedVariables false
set_option linter.unusedSimpArgs false
namespace Uno
theorem U : (!true) = false := rfl
end Uno

theorem nr_ {α : Type} {a b : α} (h : a = b := by (try simp only [Z, U, Int.cast_ofNat_Int, UInt8.reduceToNat, UInt32.reduceToNat, Nat.reduceAdd, Nat.reduceMul, Nat.reduceSub, Nat.reduceLeDiff, Int.reduceToNat, Int.reducePow, Nat.reducePow]) <;> rfl) : a = b := h
theorem nc_ {α : Type} {a b : α} (h : a = b := by first | (simp only [adO, adTO, adLO, ad1O, outO, Z, U, Int.cast_ofNat_Int, UInt8.reduceToNat, UInt32.reduceToNat, Nat.reduceAdd, Nat.reduceMul, Nat.reduceSub, Nat.reduceLeDiff, Int.reduceToNat, Int.reducePow, Nat.reducePow] <;> fail) | (simp only [List.cons_append, List.nil_append, List.append_nil, adO, adTO, adLO, ad1O, outO, Option.getD_some, St.ob, look, Nat.reduceEqDiff, reduceIte, Z, U, Int.cast_ofNat_Int, UInt8.reduceToNat, UInt32.reduceToNat, Nat.reduceAdd, Nat.reduceMul, Nat.reduceSub, Nat.reduceLeDiff, Int.reduceToNat, Int.reducePow, Nat.reducePow]; rfl) | rfl) : a = b := h
theorem sg_ {p : Prop} (h : p := by (try clear k_); (repeat' (first | exact trivial | apply And.intro | refine List.forall_mem_cons.2 ?_ | exact List.forall_mem_nil _ | (intro hgd; try exact absurd hgd (by decide)))) <;> first | exact rfl | omega | (simp only [Z, U, Int.cast_ofNat_Int, UInt8.reduceToNat, UInt32.reduceToNat, Nat.reduceAdd, Nat.reduceMul, Nat.reduceSub, Nat.reduceLeDiff, Int.reduceToNat, Int.reducePow, Nat.reducePow] <;> omega) | exact Nat.le_of_ble_eq_true rfl | assumption | (simp only [Z, U, Int.cast_ofNat_Int, UInt8.reduceToNat, UInt32.reduceToNat, Nat.reduceAdd, Nat.reduceMul, Nat.reduceSub, Nat.reduceLeDiff, Int.reduceToNat, Int.reducePow, Nat.reducePow, BN] at * <;> omega) | (simp_all [Z, BN] <;> fail)) : p := h
theorem wkk_ {p : Prop} (h : p := by (repeat' apply And.intro) <;> first | exact trivial | rfl | (intro o ho; simp [D.nm, nmL, ctNm, nmL_ownb, nmL_rob, nmL_str, nmL_cz] at ho <;> fail) | (intro o ho; simp [D.nm, nmL, ctNm, nmL_ownb, nmL_rob, nmL_str, nmL_cz] at ho ⊢ <;> omega) | (simp only [Z, U, Int.cast_ofNat_Int, UInt8.reduceToNat, UInt32.reduceToNat, Nat.reduceAdd, Nat.reduceMul, Nat.reduceSub, Nat.reduceLeDiff, Int.reduceToNat, Int.reducePow, Nat.reducePow] <;> fail) | (simp [St.ob, St.slot, look] <;> fail) | (simp [St.ob, St.slot, look]; omega) | simp [St.ob, St.slot, look]) : p := h
theorem fr_ {cs : List D} (h : cs.all D.fr0 = true := by first | rfl | exact fr0_ownb _ | exact fr0_cz _ _ | exact fr0_rob _ | exact fr0_str _ | simp [D.fr0]) : cs.all D.fr0 = true := h
theorem ma_ {s : St} {d d2 : D} {own fro : List Nat} (h : Mat s d d2 own fro := by (repeat' (first | apply mcf rfl | exact .tnil | exact mat_eq rfl rfl | apply mat_i | apply mat_bl | apply mat_u8 | apply mat_u32 | apply mat_st | apply mat_ab | apply mat_rbe | apply mat_nrb | apply mat_nob | exact mat_nos rfl rfl | exact mat_rf0 rfl | exact mat_trob | (apply mat_rf rfl rfl rfl) | refine mat_slf (e := 1) rfl rfl rfl rfl ?_ ?_ ?_ (by first | exact fr0_rob _ | exact fr0_str _ | exact fr0_str _) | (apply mat_sls rfl rfl rfl rfl rfl rfl) | exact mat_pf rfl rfl rfl rfl rfl | (apply mat_s0 rfl rfl rfl; (· first | rfl | (simp <;> fail) | (simp; omega) | omega)) | (apply mat_r0 rfl rfl rfl; (· first | rfl | (simp <;> fail) | (simp; omega) | omega)) | apply mat_sl rfl rfl rfl | apply mat_rb rfl rfl rfl | apply mat_p rfl rfl rfl rfl | apply mc)) <;> (first | rfl | assumption | (simp only [Z, U, Int.cast_ofNat_Int, UInt8.reduceToNat, UInt32.reduceToNat, Nat.reduceAdd, Nat.reduceMul, Nat.reduceSub, Nat.reduceLeDiff, Int.reduceToNat, Int.reducePow, Nat.reducePow] <;> fail) | (simp <;> fail) | omega | (simp [List.take_of_length_le] <;> fail))) : Mat s d d2 own fro := h
theorem ml_ {s : St} {d d2 : D} {own fro : List Nat} (h : Mat s d d2 own fro := by (repeat' (first | exact .tnil | exact mat_eq rfl rfl | apply mat_i | apply mat_bl | apply mat_u8 | apply mat_u32 | apply mat_st | apply mat_ab | apply mat_rbe | apply mat_nrb | apply mat_nob | exact mat_nos rfl rfl | exact mat_rf0 rfl | exact mat_trob | (apply mat_rf rfl rfl rfl) | refine mat_slf (e := 1) rfl rfl rfl rfl ?_ ?_ ?_ (by first | exact fr0_rob _ | exact fr0_str _ | exact fr0_str _) | (apply mat_sls rfl rfl rfl rfl rfl rfl) | exact mat_pf rfl rfl rfl rfl rfl | (apply mat_s0 rfl rfl rfl; (· first | rfl | (simp <;> fail) | (simp; omega) | omega)) | (apply mat_r0 rfl rfl rfl; (· first | rfl | (simp <;> fail) | (simp; omega) | omega)) | apply mat_sl rfl rfl rfl | apply mat_rb rfl rfl rfl | apply mat_p rfl rfl rfl rfl | apply mc)) <;> (first | rfl | assumption | (simp only [Z, U, Int.cast_ofNat_Int, UInt8.reduceToNat, UInt32.reduceToNat, Nat.reduceAdd, Nat.reduceMul, Nat.reduceSub, Nat.reduceLeDiff, Int.reduceToNat, Int.reducePow, Nat.reducePow] <;> fail) | (simp <;> fail) | omega | (simp [List.take_of_length_le] <;> fail))) : Mat s d d2 own fro := h
theorem mr_ {s : St} {d d2 : D} {own fro : List Nat} (h : Mat s d d2 own fro := by (first | exact Mat.tnil | apply mat1 rfl | apply mat2 rfl rfl | apply mat3 rfl rfl rfl) <;> (repeat' (first | exact .tnil | exact mat_eq rfl rfl | apply mat_i | apply mat_bl | apply mat_u8 | apply mat_u32 | apply mat_st | apply mat_ab | apply mat_rbe | apply mat_nrb | apply mat_nob | exact mat_nos rfl rfl | exact mat_rf0 rfl | exact mat_trob | (apply mat_rf rfl rfl rfl) | refine mat_slf (e := 1) rfl rfl rfl rfl ?_ ?_ ?_ (by first | exact fr0_rob _ | exact fr0_str _ | exact fr0_str _) | (apply mat_sls rfl rfl rfl rfl rfl rfl) | exact mat_pf rfl rfl rfl rfl rfl | (apply mat_s0 rfl rfl rfl; (· first | rfl | (simp <;> fail) | (simp; omega) | omega)) | (apply mat_r0 rfl rfl rfl; (· first | rfl | (simp <;> fail) | (simp; omega) | omega)) | apply mat_sl rfl rfl rfl | apply mat_rb rfl rfl rfl | apply mat_p rfl rfl rfl rfl | apply mc)) <;> (first | rfl | assumption | (simp only [Z, U, Int.cast_ofNat_Int, UInt8.reduceToNat, UInt32.reduceToNat, Nat.reduceAdd, Nat.reduceMul, Nat.reduceSub, Nat.reduceLeDiff, Int.reduceToNat, Int.reducePow, Nat.reducePow] <;> fail) | (simp <;> fail) | omega | (simp [List.take_of_length_le] <;> fail))) : Mat s d d2 own fro := h
theorem rk_ {s : St} {outs : Option (List D)} {own : List Nat} {ds : List D} (h : RcvOk s outs own ds := by first | exact rfl | exact ⟨900, 1, _, rfl, rfl, rfl, rfl, rfl, by simp, rfl⟩ | exact ⟨_, _, _, rfl, rfl, rfl, rfl, rfl, by simp, rfl⟩) : RcvOk s outs own ds := h
section
variable {C : Ctx} {Ti : Nat → TI} {G : Nat → Option D} {n : Nat} {ops : Array Oper} {acc acc' : Acc} {rest rest' : List Oper} {s s1 s2 : St} {K : Acc → St → Prop} {W : St → St → Prop} {Gs : Prop} {Q : Exit → St → Prop}
/-- A region without calls. -/
theorem R_ {id : Nat} (hE : Env C Ti G n) (hk : Q .normal s2) (hnd : noDefer ops = true := by exact rfl) (e : runD Ti G ops n 200 [] ops.toList s = some (Gs, acc', [], s1) := by exact rfl) (hs : s1 = s2 := by exact nr_) (hg : Gs := by exact sg_) : VC C (.region id ops false) s Q :=
  vr hnd hE 200 e hs hg hk
theorem RD_ {id : Nat} (hE : Env C Ti G n) (hm : C.P.follows .mixedOrders = true) (hk : Q .normal s2) (hnd : noDefer ops = true := by exact rfl) (e : runD Ti G ops n 200 [] ops.toList s = some (Gs, acc', [], s1) := by exact rfl) (hc : chk ops acc' = true := by kernel_rfl) (hs : s1 = s2 := by exact nr_) (hg : Gs := by exact sg_) : VC C (.region id ops true) s Q :=
  vrD hnd hE hm 200 e hc hs hg hk
/-- The same, its guards left. -/
theorem RG_ {id : Nat} (hE : Env C Ti G n) (hg : Gs) (hk : Q .normal s2) (hnd : noDefer ops = true := by exact rfl) (e : runD Ti G ops n 200 [] ops.toList s = some (Gs, acc', [], s1) := by exact rfl) (hs : s1 = s2 := by exact nr_) : VC C (.region id ops false) s Q :=
  vr hnd hE 200 e hs hg hk
theorem RDG_ {id : Nat} (hE : Env C Ti G n) (hm : C.P.follows .mixedOrders = true) (hg : Gs) (hk : Q .normal s2) (hnd : noDefer ops = true := by exact rfl) (e : runD Ti G ops n 200 [] ops.toList s = some (Gs, acc', [], s1) := by exact rfl) (hc : chk ops acc' = true := by kernel_rfl) (hs : s1 = s2 := by exact nr_) : VC C (.region id ops true) s Q :=
  vrD hnd hE hm 200 e hc hs hg hk
/-- All that goes by itself. -/
theorem A_ {P Q : Prop} (p : P) (h : P → Q := by (intro k_; (repeat' (first | refine vs ?_ | refine R_ hE ?_ | refine RD_ hE hm ?_ | refine sq_n ?_ | refine vc_skip ?_ | refine vc_exit ?_ | refine vc_ret ?_ | refine sq_r ?_ | refine sq_e ?_ | refine in_n ?_ | refine in_e ?_ | refine in_r ?_ | refine in_x rfl ?_ | refine vb ?_ | refine lq_r ?_ | refine lq_e ?_ | refine nq_r ?_ | refine nq_e ?_ | refine nq_n ?_ | refine vn_s ?_ | refine jq_r ?_ | refine jq_e ?_ | refine vT hE rfl rfl ?_ | refine vF hE rfl rfl ?_)); exact k_)) : Q := h p
theorem A1_ {P Q : Prop} (p : P) (h : P → Q := by (intro k_; (first | refine vs ?_ | refine R_ hE ?_ | refine RD_ hE hm ?_ | refine sq_n ?_ | refine vc_skip ?_ | refine vc_exit ?_ | refine vc_ret ?_ | refine sq_r ?_ | refine sq_e ?_ | refine in_n ?_ | refine in_e ?_ | refine in_r ?_ | refine in_x rfl ?_ | refine vb ?_ | refine lq_r ?_ | refine lq_e ?_ | refine nq_r ?_ | refine nq_e ?_ | refine nq_n ?_ | refine vn_s ?_ | refine jq_r ?_ | refine jq_e ?_ | refine vT hE rfl rfl ?_ | refine vF hE rfl rfl ?_); (repeat' (first | refine vs ?_ | refine R_ hE ?_ | refine RD_ hE hm ?_ | refine sq_n ?_ | refine vc_skip ?_ | refine vc_exit ?_ | refine vc_ret ?_ | refine sq_r ?_ | refine sq_e ?_ | refine in_n ?_ | refine in_e ?_ | refine in_r ?_ | refine in_x rfl ?_ | refine vb ?_ | refine lq_r ?_ | refine lq_e ?_ | refine nq_r ?_ | refine nq_e ?_ | refine nq_n ?_ | refine vn_s ?_ | refine jq_r ?_ | refine jq_e ?_ | refine vT hE rfl rfl ?_ | refine vF hE rfl rfl ?_)); exact k_)) : Q := h p
/-- Both ways of an if. -/
theorem C_ {x y : Code} {p q : Prop} (hE : Env C Ti G n) {o : Operand} {b : Bool} (ht : p → VC C x s Q) (hf : q → VC C y s Q) (hc : frc (evg G s o) = some (.bool b) := by exact rfl) (e1 : (b = true) = p := by (try simp only [BN, V1, V2]) <;> rfl) (e2 : (b = false) = q := by (try simp only [BN, V1, V2]) <;> rfl) : VC C (.cond o x y) s Q :=
  vc hE hc (fun h => ht (e1 ▸ h)) (fun h => hf (e2 ▸ h))
theorem O_ {id : Nat} (h : RG C ops (Wk C) [] ops.toList s (fun _ s' => Q .normal s')) (hnd : noDefer ops = true := by exact rfl) : VC C (.region id ops false) s Q := vo hnd h
theorem OD_ {id : Nat} (hm : C.P.follows .mixedOrders = true) (h : RG C ops Eq [] ops.toList s (fun acc s' => chk ops acc = true ∧ Q .normal s')) (hnd : noDefer ops = true := by exact rfl) : VC C (.region id ops true) s Q := voD hnd hm h
theorem ZD_ (h : Q .normal s) (hc : chk ops acc = true := by kernel_rfl) : RG C ops W acc [] s (fun acc s' => chk ops acc = true ∧ Q .normal s') := rzD hc h
/-- So many operations of a region. -/
theorem G_ (k : Nat) (hE : Env C Ti G n) (hk : RG C ops W acc' rest' s2 K) (e : runD Ti G ops n k acc rest s = some (Gs, acc', rest', s1) := by exact rfl) (hs : s1 = s2 := by exact nr_) (hg : Gs := by exact sg_) : RG C ops W acc rest s K := rn hE k e hs hg hk
/-- One operation under a guard that is met. -/
theorem GT_ {c : Bool} {dst : Option Nat} {op : Op} {ty : TypeId} {pos : String} {after : Array Edge} {gd : Option (Nat × Bool)} {g : Prop} {d d1 : D} {obs : List (Nat × Ob)} {R : List Nat} (hE : Env C Ti G n) (hcc : c = true) (hk : RG C ops W ((obs.map (·.1), R) :: acc) rest s2 K)
    (hc : gcO ops s gd = .on c := by exact rfl) (hb : (dstB n dst && stOk op dst) = true := by exact rfl) (e : opD Ti G s dst op = some (g, d, obs, R) := by exact rfl) (hd : d = d1 := by first | rfl | exact frc_id _) (hg : g := by exact sg_) (hs : (s.lays obs).puto dst d1 = s2 := by exact nr_) : RG C ops W acc (⟨dst, op, ty, pos, after, gd⟩ :: rest) s K := rT hE hc hcc hb e hd hg hs hk
/-- One operation, its value by an equation. -/
theorem L_ {dst : Option Nat} {op : Op} {ty : TypeId} {pos : String} {after : Array Edge} {gd : Option (Nat × Bool)} {g : Prop} {d d1 : D} {obs : List (Nat × Ob)} {R : List Nat} (hE : Env C Ti G n) (hk : RG C ops W ((obs.map (·.1), R) :: acc) rest s2 K)
    (hc : gcO ops s gd = .yes := by exact rfl) (hb : (dstB n dst && stOk op dst) = true := by exact rfl) (e : opD Ti G s dst op = some (g, d, obs, R) := by exact rfl) (hd : d = d1 := by rfl) (hg : g := by exact sg_) (hs : (s.lays obs).puto dst d1 = s2 := by exact nr_) : RG C ops W acc (⟨dst, op, ty, pos, after, gd⟩ :: rest) s K := r1 hE hc hb e hd hg hs hk
/-- A call by a contract. -/
theorem rc_ {P : Program} (hE : Env C Ti G n) (hP : C.P = P) {dst : Option Tmp} {f : Nat} {args : Array Operand} {ts : Array TypeId} {ty : TypeId} {pos : String} {after : Array Edge} {gd : Option (Nat × Bool)} {ins : List D} {res d1 : D} {outs : Option (List D)} (fc : FC P G f ins res outs) {fn : Func} (hfn : P.funcs[f]? = some fn)
    {own fro : List Nat} {obs : List (Nat × Ob)} {nm R : List Nat} (hk : RG C ops W ((nm, R) :: acc) rest s2 K)
    (h2 : (fn.name == "runtime.NumGoroutine") = false := by exact rfl) (h3 : fn.body.isNone = false := by exact rfl) (hm : Mat s (.tup (args.toList.map (evg G s))) (.tup ins) own fro := by exact ma_) (hnd : own.Nodup := by decide) (hdis : ∀ o ∈ own, o ∉ fro := by decide)
    (hnr : fro = [] ∨ (res.nr = true ∧ ∀ cs, outs = some cs → cs.all D.nr0 = true) := by first | exact .inl rfl | exact .inr ⟨rfl, fun _ h => by cases h <;> rfl⟩) (had : res.ad = true := by first | rfl | simp [D.ad, D.adL, D.ad1, D.fr0, D.pf, D.pf1, D.pf0]) (hout : RcvOk s outs own (args.toList.map (evg G s)) := by exact rk_) (hd : dstB n dst = true := by exact rfl) (hgd : gcO ops s gd = .yes := by exact rfl)
    (ho : outO s outs own ++ (adO s.ob (dst.getD 0) res).2 = obs := by exact nc_) (hd1 : (adO s.ob (dst.getD 0) res).1 = d1 := by exact nc_) (hs : (s.lays obs).puto dst d1 = s2 := by exact nr_) (hnm : obs.map (·.1) = nm := by exact nc_) (hR : own ++ fro ++ (adO s.ob (dst.getD 0) res).2.map (·.1) = R := by exact nc_) :
    RG C ops W acc (⟨dst, .call { callee := .value (.func f), args := args, argTypes := ts }, ty, pos, after, gd⟩ :: rest) s K := rc hE hP fc (fnOk_of hfn h2 h3) hm hnd hdis hnr had hout hd hgd ho hd1 hs hnm hR hk
theorem rct_ {P : Program} (hE : Env C Ti G n) (hP : C.P = P) {dst : Option Tmp} {f : Nat} {args : Array Operand} {ts : Array TypeId} {ty : TypeId} {pos : String} {after : Array Edge} {gd : Option (Nat × Bool)} {ins : List D} {res d1 : D} {outs : Option (List D)} (fc : FC P G f ins res outs) {fn : Func} (hfn : P.funcs[f]? = some fn)
    {c : Bool} (hcc : c = true) {own fro : List Nat} {obs : List (Nat × Ob)} {nm R : List Nat} (hk : RG C ops W ((nm, R) :: acc) rest s2 K)
    (h2 : (fn.name == "runtime.NumGoroutine") = false := by exact rfl) (h3 : fn.body.isNone = false := by exact rfl) (hm : Mat s (.tup (args.toList.map (evg G s))) (.tup ins) own fro := by exact ma_) (hnd : own.Nodup := by decide) (hdis : ∀ o ∈ own, o ∉ fro := by decide)
    (hnr : fro = [] ∨ (res.nr = true ∧ ∀ cs, outs = some cs → cs.all D.nr0 = true) := by first | exact .inl rfl | exact .inr ⟨rfl, fun _ h => by cases h <;> rfl⟩) (had : res.ad = true := by first | rfl | simp [D.ad, D.adL, D.ad1, D.fr0, D.pf, D.pf1, D.pf0]) (hout : RcvOk s outs own (args.toList.map (evg G s)) := by exact rk_) (hd : dstB n dst = true := by exact rfl) (hgd : gcO ops s gd = .on c := by exact rfl)
    (ho : outO s outs own ++ (adO s.ob (dst.getD 0) res).2 = obs := by exact nc_) (hd1 : (adO s.ob (dst.getD 0) res).1 = d1 := by exact nc_) (hs : (s.lays obs).puto dst d1 = s2 := by exact nr_) (hnm : obs.map (·.1) = nm := by exact nc_) (hR : own ++ fro ++ (adO s.ob (dst.getD 0) res).2.map (·.1) = R := by exact nc_) :
    RG C ops W acc (⟨dst, .call { callee := .value (.func f), args := args, argTypes := ts }, ty, pos, after, gd⟩ :: rest) s K := rct hE hP fc (fnOk_of hfn h2 h3) hm hnd hdis hnr had hout hd hgd hcc ho hd1 hs hnm hR hk
/-- Less is kept. -/
theorem wk_ {sl' : List (Nat × D)} {hp' : List (Nat × Ob)} {dk : List Nat} (hrc : ∀ d v, ¬ C.keep d v) (hdk : dk = s.dk := by exact rfl) (hs : slOk s (hp'.map (·.1)) sl' := by exact wkk_) (hh : hpOk s (hp'.map (·.1)) hp' := by exact wkk_) : Wk C s ⟨sl', hp', dk⟩ := wk_of hdk hs hh hrc
theorem wk9_ {sl' : List (Nat × D)} {hp' : List (Nat × Ob)} {dk : List Nat} (hrc : ∀ d v, C.keep d v → d = .ptr 900 1 0) (hdk : dk = s.dk := by exact rfl) (hs : slOk s (hp'.map (·.1)) sl' := by exact wkk_) (hh : hpOk s (hp'.map (·.1)) hp' := by exact wkk_) (h9 : 900 ∈ hp'.map (·.1) := by simp) : Wk C s ⟨sl', hp', dk⟩ := wk_of9 hdk hs hh hrc h9
/-- Ends. -/
theorem ret_ {ts : List Nat} {res : D} {e : Exit} {own fro : List Nat} (he : e = .normal ∨ e = .ret := by first | exact .inl rfl | exact .inr rfl) (h : Mat s (resD ts s) res own fro := by exact mr_) (hnd : own.Nodup := by decide) (hdis : ∀ o ∈ own, o ∉ fro := by decide) : RetQ ts res none e s := ⟨he, fin0 rfl h hnd hdis⟩
theorem retr_ {ts : List Nat} {res : D} {cs : List D} {e : Exit} {own fro own' fro' : List Nat} (he : e = .normal ∨ e = .ret := by first | exact .inl rfl | exact .inr rfl) (h : Mat s (resD ts s) res own fro := by exact mr_) (hr : Mat s (.ptr 900 1 0) (.ownp cs) own' fro' := by first | (apply mat_pf rfl rfl rfl rfl; (first | rfl | assumption | (simp only [Z, U, Int.cast_ofNat_Int, UInt8.reduceToNat, UInt32.reduceToNat, Nat.reduceAdd, Nat.reduceMul, Nat.reduceSub, Nat.reduceLeDiff, Int.reduceToNat, Int.reducePow, Nat.reducePow] <;> fail) | (simp <;> fail) | (simp [List.take_of_length_le] <;> fail))) | exact ml_) (hnd : (own ++ own').Nodup := by decide) (hdis : ∀ o ∈ own ++ own', o ∉ fro ++ fro' := by decide) : RetQ ts res (some cs) e s := ⟨he, fin2 rfl h hr hnd hdis⟩
theorem retc_ {t ty : Nat} {res : D} {e : Exit} {own fro R : List Nat} {g : Prop} {d d' : D} (he : e = .normal ∨ e = .ret := by first | exact .inl rfl | exact .inr rfl) (el : ldD Ti s.ob ty (s.slot t) = some (g, d, R) := by exact rfl) (hd : d = d' := by exact nr_) (hg : g := by exact sg_) (hs : s.put t d' = s2 := by exact nr_) (h : Mat s2 (resD [t] s2) res own fro := by exact mr_) (hnd : own.Nodup := by decide) (hdis : ∀ o ∈ own, o ∉ fro := by decide) : RetC Ti t ty res none e s := ⟨he, g, d, R, el, hg, by rw [hd, hs]; exact fin0 rfl h hnd hdis⟩
theorem retrc_ {t ty : Nat} {res : D} {cs : List D} {e : Exit} {own fro own' fro' R : List Nat} {g : Prop} {d d' : D} (he : e = .normal ∨ e = .ret := by first | exact .inl rfl | exact .inr rfl) (el : ldD Ti s.ob ty (s.slot t) = some (g, d, R) := by exact rfl) (hd : d = d' := by exact nr_) (hg : g := by exact sg_) (hs : s.put t d' = s2 := by exact nr_) (h : Mat s2 (resD [t] s2) res own fro := by exact mr_) (hr : Mat s2 (.ptr 900 1 0) (.ownp cs) own' fro' := by first | (apply mat_pf rfl rfl rfl rfl; (first | rfl | assumption | (simp only [Z, U, Int.cast_ofNat_Int, UInt8.reduceToNat, UInt32.reduceToNat, Nat.reduceAdd, Nat.reduceMul, Nat.reduceSub, Nat.reduceLeDiff, Int.reduceToNat, Int.reducePow, Nat.reducePow] <;> fail) | (simp <;> fail) | (simp [List.take_of_length_le] <;> fail))) | exact ml_) (hnd : (own ++ own').Nodup := by decide) (hdis : ∀ o ∈ own ++ own', o ∉ fro ++ fro' := by decide) : RetC Ti t ty res (some cs) e s := ⟨he, g, d, R, el, hg, by rw [hd, hs]; exact fin2 rfl h hr hnd hdis⟩
theorem retc2_ {t ty t' ty' : Nat} {res : D} {own fro R R' : List Nat} {g g' : Prop} {d d1 d' d1' : D} (el : ldD Ti s.ob ty (s.slot t) = some (g, d, R) := by exact rfl) (el' : ldD Ti s.ob ty' (s.slot t') = some (g', d', R') := by exact rfl) (hd : d = d1 := by exact nr_) (hd' : d' = d1' := by exact nr_) (hg : g := by exact sg_) (hg' : g' := by exact sg_) (hs : (s.put t d1).put t' d1' = s2 := by exact nr_) (h : Mat s2 (resD [t, t'] s2) res own fro := by exact mr_) (hnd : own.Nodup := by decide) (hdis : ∀ o ∈ own, o ∉ fro := by decide) : RetC2 Ti t ty t' ty' res none .ret s := fn_rc2 el el' hd hd' hg hg' hs (fin0 rfl h hnd hdis)
/-- Steps. -/
theorem so_ {sl : List (Nat × D)} {hp : List (Nat × Ob)} {dk : List Nat} (o i x g : Nat) {sh : Sh} {cs cs' : List D} {l : List UInt8} (ho : (⟨sl, hp, dk⟩ : St).ob o = ⟨sh, some (.cells cs)⟩ := by exact rfl) (hi : cs[i]? = some (.ownb l) := by exact rfl) (hx : Nat.beq x o = false := by exact rfl) (hg : ((⟨sl, hp, dk⟩ : St).ob x).sh.gen = g := by exact rfl) (hcs : cs.set i (.sl x (g + 1) 0 l.length) = cs' := by exact nr_) : Wk C ⟨sl, hp, dk⟩ ⟨sl, (o, ⟨sh, some (.cells cs')⟩) :: (x, ⟨⟨g + 1, 1, l.length⟩, some (.bytes l)⟩) :: hp, dk⟩ := kopen o i x ho hi hx hg hcs
theorem sos_ {sl : List (Nat × D)} {hp : List (Nat × Ob)} {dk : List Nat} (o i x g : Nat) {sh : Sh} {cs cs' cs1 : List D} {e n : Nat} (ho : (⟨sl, hp, dk⟩ : St).ob o = ⟨sh, some (.cells cs)⟩ := by exact rfl) (hi : cs[i]? = some (.owns e n cs1) := by exact rfl) (hd : cs1.all D.fr0 = true := by exact fr_) (hx : Nat.beq x o = false := by exact rfl) (hg : ((⟨sl, hp, dk⟩ : St).ob x).sh.gen = g := by exact rfl) (hcs : cs.set i (.sl x (g + 1) 0 n) = cs' := by exact nr_) : Wk C ⟨sl, hp, dk⟩ ⟨sl, (o, ⟨sh, some (.cells cs')⟩) :: (x, ⟨⟨g + 1, e, cs1.length⟩, some (.cells cs1)⟩) :: hp, dk⟩ := kopens o i x ho hi hd hx hg hcs
theorem sop_ {sl : List (Nat × D)} {hp : List (Nat × Ob)} {dk : List Nat} (o i x g : Nat) {sh : Sh} {cs cs' cs1 : List D} (ho : (⟨sl, hp, dk⟩ : St).ob o = ⟨sh, some (.cells cs)⟩ := by exact rfl) (hi : cs[i]? = some (.ownp cs1) := by exact rfl) (hd : cs1.all D.fr0 = true := by exact fr_) (hx : Nat.beq x o = false := by exact rfl) (hg : ((⟨sl, hp, dk⟩ : St).ob x).sh.gen = g := by exact rfl) (hcs : cs.set i (.ptr x (g + 1) 0) = cs' := by exact nr_) : Wk C ⟨sl, hp, dk⟩ ⟨sl, (o, ⟨sh, some (.cells cs')⟩) :: (x, ⟨⟨g + 1, 1, cs1.length⟩, some (.cells cs1)⟩) :: hp, dk⟩ := kopenp o i x ho hi hd hx hg hcs
theorem sc_ {sl : List (Nat × D)} {hp : List (Nat × Ob)} {dk : List Nat} (o i x : Nat) {sh shx : Sh} {cs cs' : List D} {l : List UInt8} {g off len : Nat} (ho : (⟨sl, hp, dk⟩ : St).ob o = ⟨sh, some (.cells cs)⟩ := by exact rfl) (hi : cs[i]? = some (.sl x g off len) := by exact rfl) (hx : Nat.beq x o = false := by exact rfl) (hxc : (⟨sl, hp, dk⟩ : St).ob x = ⟨shx, some (.bytes l)⟩ := by exact rfl) (hg : g = shx.gen := by exact rfl) (he : shx.esz = 1 := by exact rfl) (hcs : cs.set i (.ownb ((l.drop off).take len)) = cs' := by exact nr_) : Wk C ⟨sl, hp, dk⟩ ⟨sl, (o, ⟨sh, some (.cells cs')⟩) :: (x, ⟨shx, none⟩) :: hp, dk⟩ := kclose o i x ho hi hx hxc hg he hcs
theorem scs_ {sl : List (Nat × D)} {hp : List (Nat × Ob)} {dk : List Nat} (o i x : Nat) {sh shx : Sh} {cs cs' cx : List D} {g len e : Nat} (ho : (⟨sl, hp, dk⟩ : St).ob o = ⟨sh, some (.cells cs)⟩ := by exact rfl) (hi : cs[i]? = some (.sl x g 0 len) := by exact rfl) (hx : Nat.beq x o = false := by exact rfl) (hxc : (⟨sl, hp, dk⟩ : St).ob x = ⟨shx, some (.cells cx)⟩ := by exact rfl) (hg : g = shx.gen := by exact rfl) (he : shx.esz = e := by exact rfl) (h0 : Nat.blt 0 e = true := by exact rfl) (hl : cx.length = len * e := by first | rfl | simp) (hd : cx.all D.fr0 = true := by exact fr_) (hcs : cs.set i (.owns e len cx) = cs' := by exact nr_) : Wk C ⟨sl, hp, dk⟩ ⟨sl, (o, ⟨sh, some (.cells cs')⟩) :: (x, ⟨shx, none⟩) :: hp, dk⟩ := kcloses o i x ho hi hx hxc hg he h0 hl hd hcs
theorem scp_ {sl : List (Nat × D)} {hp : List (Nat × Ob)} {dk : List Nat} (o i x : Nat) {sh shx : Sh} {cs cs' cx : List D} {g : Nat} (ho : (⟨sl, hp, dk⟩ : St).ob o = ⟨sh, some (.cells cs)⟩ := by exact rfl) (hi : cs[i]? = some (.ptr x g 0) := by exact rfl) (hx : Nat.beq x o = false := by exact rfl) (hxc : (⟨sl, hp, dk⟩ : St).ob x = ⟨shx, some (.cells cx)⟩ := by exact rfl) (hg : g = shx.gen := by exact rfl) (h0 : Nat.blt 0 cx.length = true := by exact rfl) (hd : cx.all D.fr0 = true := by exact fr_) (hcs : cs.set i (.ownp cx) = cs' := by exact nr_) : Wk C ⟨sl, hp, dk⟩ ⟨sl, (o, ⟨sh, some (.cells cs')⟩) :: (x, ⟨shx, none⟩) :: hp, dk⟩ := kclosep o i x ho hi hx hxc hg h0 hd hcs
theorem sf_ {sl : List (Nat × D)} {hp : List (Nat × Ob)} {dk : List Nat} (o : Nat) {sh : Sh} {cs cs' : List D} (ho : (⟨sl, hp, dk⟩ : St).ob o = ⟨sh, some (.cells cs)⟩ := by exact rfl) (hc : cs.all D.fr0 = true := by exact fr_) (hcs : cs.map frz = cs' := by exact nr_) : Wk C ⟨sl, hp, dk⟩ ⟨sl, (o, ⟨sh, some (.cells cs')⟩) :: hp, dk⟩ := kfreeze o ho hc hcs
theorem sgb_ {sl : List (Nat × D)} {hp : List (Nat × Ob)} {dk : List Nat} (t o : Nat) {sh : Sh} {l l' : List UInt8} {g off len : Nat} (ho : (⟨sl, hp, dk⟩ : St).ob o = ⟨sh, some (.bytes l)⟩ := by exact rfl) (he : frc (look .bot sl t) = some (.sl o g off len) := by exact rfl) (hg : g = sh.gen := by exact rfl) (he1 : sh.esz = 1 := by exact rfl) (hl : (l.drop off).take len = l' := by exact nr_) : Wk C ⟨sl, hp, dk⟩ ⟨(t, .rob l') :: sl, (o, ⟨sh, none⟩) :: hp, dk⟩ := kgiveb t o ho he hg he1 hl
theorem sgr_ {sl : List (Nat × D)} {hp : List (Nat × Ob)} {dk : List Nat} (t o : Nat) {sh : Sh} {ps : List (List UInt8)} {g len : Nat} (ho : (⟨sl, hp, dk⟩ : St).ob o = ⟨sh, some (.cells (ps.map D.rob))⟩ := by exact rfl) (he : frc (look .bot sl t) = some (.sl o g 0 len) := by exact rfl) (hg : g = sh.gen := by exact rfl) (he1 : sh.esz = 1 := by exact rfl) (hl : ps.length = len := by first | rfl | simp | omega) :
    Wk C ⟨sl, hp, dk⟩ ⟨(t, .rof 1 len (fun i _ => .rob (ps.getD i []))) :: sl, (o, ⟨sh, none⟩) :: hp, dk⟩ := kgiver t o ho he hg he1 hl
theorem sgst_ {sl : List (Nat × D)} {hp : List (Nat × Ob)} {dk : List Nat} (t o : Nat) {sh : Sh} {ps : List (List UInt8)} {g len : Nat} (ho : (⟨sl, hp, dk⟩ : St).ob o = ⟨sh, some (.cells (ps.map D.str))⟩ := by exact rfl) (he : frc (look .bot sl t) = some (.sl o g 0 len) := by exact rfl) (hg : g = sh.gen := by exact rfl) (he1 : sh.esz = 1 := by exact rfl) (hl : ps.length = len := by first | rfl | simp | omega) :
    Wk C ⟨sl, hp, dk⟩ ⟨(t, .rof 1 len (fun i _ => .str (ps.getD i []))) :: sl, (o, ⟨sh, none⟩) :: hp, dk⟩ := kgivest t o ho he hg he1 hl
theorem wv_ {c : Code} (hw : Wk C s s1) (h : VC C c s1 Q) : VC C c s Q := h.weak hw
end
/-! How a function is entered. -/
section
variable {P : Program} {Ti : Nat → TI} {G : Nat → Option D} {f : Nat} {fn : Func} {c : Code} {ins : List D} {res : D} {s0 : St}
theorem fi_ (nt : Nat) (ts : List Nat) (hti : tiOf P = Ti) (gp : ∀ g cs, G g = some cs → cs.pf0 = true) (hf : P.funcs[f]? = some fn)
    (h : ∀ C, Env C Ti G nt → C.P.follows .mixedOrders = true → C.P = P → (∀ d v, ¬ C.keep d v) → C.rnd = none → VC C c s0 (RetQ ts res none))
    (hb : fn.body = some c := by exact rfl) (hrs : fn.results = (ts.map ResultVar.tmp).toArray := by exact rfl) (hl : ts.length ≤ 5 := by decide) (hn : Nat.ble ins.length fn.ntmps = true := by exact rfl) (had : D.adL ins = true := by simp [D.adL, D.ad1, D.fr0, D.pf1, D.pf0, D.pf]) (hi : inSt ins = s0 := by simp only [inSt, adoptT, adoptL, adopt1, numb, St.lay1, St.nxt, St.lay, St.sh, St.ob, look, Z, U, Int.cast_ofNat_Int, UInt8.reduceToNat, UInt32.reduceToNat, Nat.reduceAdd, Nat.reduceMul, Nat.reduceSub, Nat.reduceLeDiff, Int.reduceToNat, Int.reducePow, Nat.reducePow]; rfl) (hnt : fn.ntmps = nt := by exact rfl) (hpm : P.follows .mixedOrders = true := by kernel_rfl) : FC P G f ins res none :=
  fc_in (ts := ts) hti gp hf hb hrs hl hn had trivial hi fun C hC => h C (hnt ▸ hC.env) (by rw [hC.p]; exact hpm) hC.p (hC.recv rfl) hC.rn
theorem fo_ {outs : List D} (nt : Nat) (ts : List Nat) (hti : tiOf P = Ti) (gp : ∀ g cs, G g = some cs → cs.pf0 = true) (hf : P.funcs[f]? = some fn)
    (h : ∀ C, Env C Ti G nt → C.P.follows .mixedOrders = true → C.P = P → (∀ d v, C.keep d v → d = .ptr 900 1 0) → C.rnd = none → VC C c s0 (RetQ ts res (some outs)))
    (hb : fn.body = some c := by exact rfl) (hrs : fn.results = (ts.map ResultVar.tmp).toArray := by exact rfl) (hl : ts.length ≤ 5 := by decide) (hn : Nat.ble ins.length fn.ntmps = true := by exact rfl) (had : D.adL ins = true := by simp [D.adL, D.ad1, D.fr0, D.pf1, D.pf0, D.pf]) (hi : inSt ins = s0 := by simp only [inSt, adoptT, adoptL, adopt1, numb, St.lay1, St.nxt, St.lay, St.sh, St.ob, look, Z, U, Int.cast_ofNat_Int, UInt8.reduceToNat, UInt32.reduceToNat, Nat.reduceAdd, Nat.reduceMul, Nat.reduceSub, Nat.reduceLeDiff, Int.reduceToNat, Int.reducePow, Nat.reducePow]; rfl) (hnt : fn.ntmps = nt := by exact rfl) (hpm : P.follows .mixedOrders = true := by kernel_rfl) (ho : OutOk ins (some outs) := by exact ⟨_, _, rfl⟩) : FC P G f ins res (some outs) :=
  fc_in (ts := ts) hti gp hf hb hrs hl hn had ho hi fun C hC => h C (hnt ▸ hC.env) (by rw [hC.p]; exact hpm) hC.p hC.recv9 hC.rn
theorem fic_ {t ty : Nat} (nt : Nat) (hti : tiOf P = Ti) (gp : ∀ g cs, G g = some cs → cs.pf0 = true) (hf : P.funcs[f]? = some fn)
    (h : ∀ C, Env C Ti G nt → C.P.follows .mixedOrders = true → C.P = P → (∀ d v, ¬ C.keep d v) → C.rnd = none → VC C c s0 (RetC Ti t ty res none))
    (hb : fn.body = some c := by exact rfl) (hrs : fn.results = #[.cell t ty] := by exact rfl) (ht : Nat.blt t fn.ntmps = true := by exact rfl) (hn : Nat.ble ins.length fn.ntmps = true := by exact rfl) (had : D.adL ins = true := by simp [D.adL, D.ad1, D.fr0, D.pf1, D.pf0, D.pf]) (hi : inSt ins = s0 := by simp only [inSt, adoptT, adoptL, adopt1, numb, St.lay1, St.nxt, St.lay, St.sh, St.ob, look, Z, U, Int.cast_ofNat_Int, UInt8.reduceToNat, UInt32.reduceToNat, Nat.reduceAdd, Nat.reduceMul, Nat.reduceSub, Nat.reduceLeDiff, Int.reduceToNat, Int.reducePow, Nat.reducePow]; rfl) (hnt : fn.ntmps = nt := by exact rfl) (hpm : P.follows .mixedOrders = true := by kernel_rfl) : FC P G f ins res none :=
  fc_inc hti gp hf hb hrs ht hn had trivial hi fun C hC => h C (hnt ▸ hC.env) (by rw [hC.p]; exact hpm) hC.p (hC.recv rfl) hC.rn
theorem foc_ {outs : List D} {t ty : Nat} (nt : Nat) (hti : tiOf P = Ti) (gp : ∀ g cs, G g = some cs → cs.pf0 = true) (hf : P.funcs[f]? = some fn)
    (h : ∀ C, Env C Ti G nt → C.P.follows .mixedOrders = true → C.P = P → (∀ d v, C.keep d v → d = .ptr 900 1 0) → C.rnd = none → VC C c s0 (RetC Ti t ty res (some outs)))
    (hb : fn.body = some c := by exact rfl) (hrs : fn.results = #[.cell t ty] := by exact rfl) (ht : Nat.blt t fn.ntmps = true := by exact rfl) (hn : Nat.ble ins.length fn.ntmps = true := by exact rfl) (had : D.adL ins = true := by simp [D.adL, D.ad1, D.fr0, D.pf1, D.pf0, D.pf]) (hi : inSt ins = s0 := by simp only [inSt, adoptT, adoptL, adopt1, numb, St.lay1, St.nxt, St.lay, St.sh, St.ob, look, Z, U, Int.cast_ofNat_Int, UInt8.reduceToNat, UInt32.reduceToNat, Nat.reduceAdd, Nat.reduceMul, Nat.reduceSub, Nat.reduceLeDiff, Int.reduceToNat, Int.reducePow, Nat.reducePow]; rfl) (hnt : fn.ntmps = nt := by exact rfl) (hpm : P.follows .mixedOrders = true := by kernel_rfl) (ho : OutOk ins (some outs) := by exact ⟨_, _, rfl⟩) : FC P G f ins res (some outs) :=
  fc_inc hti gp hf hb hrs ht hn had ho hi fun C hC => h C (hnt ▸ hC.env) (by rw [hC.p]; exact hpm) hC.p hC.recv9 hC.rn
theorem fic2_ {t ty t' ty' : Nat} (nt : Nat) (hti : tiOf P = Ti) (gp : ∀ g cs, G g = some cs → cs.pf0 = true) (hf : P.funcs[f]? = some fn)
    (h : ∀ C, Env C Ti G nt → C.P.follows .mixedOrders = true → C.P = P → (∀ d v, ¬ C.keep d v) → C.rnd = none → VC C c s0 (RetC2 Ti t ty t' ty' res none))
    (hb : fn.body = some c := by exact rfl) (hrs : fn.results = #[.cell t ty, .cell t' ty'] := by exact rfl) (ht : (Nat.blt t fn.ntmps && Nat.blt t' fn.ntmps && !(Nat.beq t t')) = true := by exact rfl) (hn : Nat.ble ins.length fn.ntmps = true := by exact rfl) (had : D.adL ins = true := by simp [D.adL, D.ad1, D.fr0, D.pf1, D.pf0, D.pf]) (hi : inSt ins = s0 := by simp only [inSt, adoptT, adoptL, adopt1, numb, St.lay1, St.nxt, St.lay, St.sh, St.ob, look, Z, U, Int.cast_ofNat_Int, UInt8.reduceToNat, UInt32.reduceToNat, Nat.reduceAdd, Nat.reduceMul, Nat.reduceSub, Nat.reduceLeDiff, Int.reduceToNat, Int.reducePow, Nat.reducePow]; rfl) (hnt : fn.ntmps = nt := by exact rfl) (hpm : P.follows .mixedOrders = true := by kernel_rfl) : FC P G f ins res none :=
  fc_inc2 hti gp hf hb hrs ht hn had trivial hi fun C hC => h C (hnt ▸ hC.env) (by rw [hC.p]; exact hpm) hC.p (hC.recv rfl) hC.rn
end
end Go.Proofs.YtabkpoklihkifaaDoor

/- From a contract of a law's function to what its row asks. Over any program. -/
namespace Go.Proofs.YtabkpoklihkifaaDoor
open Go Go.RowKit
set_option linter.unusedVariables false
set_option linter.unusedSimpArgs false

/-- Every row that is there. -/
def AllB (W : World) : Nat → Prop := fun b => ∃ cur E fz, W.heap[b]? = some (.cells cur E fz)
theorem all_ok (W : World) : SOk W (AllB W) := fun _ h => h
theorem fc_law {P : Program} {G : Nat → Option D} {f : Nat} {ins : List D} (fc : FC P G f ins (.bool true) none) (W : World) (hG : GlOk G W (AllB W)) (vs : List Value) (hl : vs.length = ins.length) (h : ∀ (i : Nat) (d : D) (v : Value), ins[i]? = some d → vs[i]? = some v → RV W (AllB W) ρ0 H0 d v []) :
    Calls P f vs.toArray W (fun e W' => e = .returned (.bool true) ∧ Below W.heap.size W W') := by
  have hfl : ∀ n, (List.replicate n ([] : List Nat)).flatten = [] := fun n => by induction n <;> simp_all [List.replicate_succ]
  refine (fc W (AllB W) vs (List.replicate ins.length []) (all_ok W) hG hl (by simp) (fun i d v F h1 h2 h3 => ?_) (by rw [hfl]; simp) (by rw [hfl]; simp)).mono ?_
  · rw [List.getElem?_replicate] at h3
    split at h3
    · injection h3 with h3
      subst h3
      exact h i d v h1 h2
    · cases h3
  · rintro e W' ⟨v, F, Fo, S', rfl, q1, q2, q3, q4, q5, q6, _, _, _, q7, _⟩
    cases q7
    rw [hfl] at q6
    exact ⟨rfl, q1, q2, q3, q4, fun b hb => q6 b hb (by simp)⟩
/-- One value after the other. -/
theorem rv_nil {W : World} : ∀ (i : Nat) (d : D) (v : Value), ([] : List D)[i]? = some d → ([] : List Value)[i]? = some v → RV W (AllB W) ρ0 H0 d v [] := fun i d v h => by simp at h
theorem rv_cons {W : World} {d0 : D} {v0 : Value} {ds : List D} {vs : List Value} (h0 : RV W (AllB W) ρ0 H0 d0 v0 []) (h : ∀ (i : Nat) (d : D) (v : Value), ds[i]? = some d → vs[i]? = some v → RV W (AllB W) ρ0 H0 d v []) : ∀ (i : Nat) (d : D) (v : Value), (d0 :: ds)[i]? = some d → (v0 :: vs)[i]? = some v → RV W (AllB W) ρ0 H0 d v []
  | 0, d, v, h1, h2 => by injection h1 with h1; injection h2 with h2; subst h1; subst h2; exact h0
  | i + 1, d, v, h1, h2 => h i d v h1 h2
theorem rv_bytes {W : World} {A : Option Addr} {n cap : Nat} {l : List UInt8} (h : Rd W W.heap.size A n cap l) : RV W (AllB W) ρ0 H0 (.rob l) (.slice A n cap) [] := by
  refine .rob l A n cap ⟨h.len, h.le, h.max, fun hn => ?_⟩
  obtain ⟨b, off, e, hb, hc⟩ := h.cells hn
  refine ⟨b, off, e, ?_, hc⟩
  have h0 := hc 0 hn
  unfold World.cell? at h0
  revert h0
  rcases hh : W.heap[b]? with _ | o
  · simp
  · cases o with
    | cells cur E fz => intro _; exact ⟨cur, E, fz, hh⟩
    | _ => simp
theorem u8r {n : Int} (h : (Lit.int .u8 n).wf = true) : 0 ≤ n ∧ n ≤ 255 := by
  have h2 : inR .u8 n := by simpa [Lit.wf, inR, IntKind.has] using h
  simpa [inR, IntKind.min, IntKind.max, IntKind.signed, IntKind.bits] using h2
theorem rv_u8 {W : World} {n : Int} (h : (⟨.u8, n⟩ : IntKind × Int).1 = .u8 ∧ 0 ≤ n ∧ n ≤ 255) : RV W (AllB W) ρ0 H0 (.u8 (b8 n)) (.int .u8 n) [] := by
  have e : Value.int .u8 n = u8 (b8 n) := by
    unfold u8 b8
    congr 1
    simp
    omega
  rw [e]
  exact .u8 _
end Go.Proofs.YtabkpoklihkifaaDoor

/- What a law's arguments read as: rows of rows of bytes. Over any program. -/
namespace Go.Proofs.YtabkpoklihkifaaDoor
open Go Go.RowKit Go.ChangeShapes Go.WideShapes
set_option linter.unusedVariables false
set_option linter.unusedSimpArgs false

theorem rowB {W : World} {b o : Nat} {v : Value} (h : W.cell? ⟨b, o, none⟩ = some v) : AllB W b := by
  unfold World.cell? at h
  revert h
  rcases hh : W.heap[b]? with _ | x
  · simp
  · cases x with
    | cells cur E fz => intro _; exact ⟨cur, E, fz, hh⟩
    | _ => simp
theorem list_ofN {α : Type} (n : Nat) {Q : Nat → α → Prop} (d : α) (h : ∀ i, i < n → ∃ a, Q i a) : ∃ l : List α, l.length = n ∧ ∀ i, i < n → Q i (l.getD i d) := by
  induction n with
  | zero => exact ⟨[], rfl, fun i hi => absurd hi (by omega)⟩
  | succ n ih =>
    obtain ⟨l, h1, h2⟩ := ih fun i hi => h i (by omega)
    obtain ⟨a, ha⟩ := h n (by omega)
    refine ⟨l ++ [a], by simp [h1], fun i hi => ?_⟩
    rw [List.getD_eq_getElem?_getD]
    rcases Nat.lt_or_ge i n with hi' | hi'
    · rw [List.getElem?_append_left (by omega), ← List.getD_eq_getElem?_getD]
      exact h2 i hi'
    · obtain rfl : i = n := by omega
      rw [List.getElem?_append_right (by omega), h1, Nat.sub_self]
      exact ha
theorem arg_rows {P : Program} {T E U : TypeId} (ht : P.underlying T = some (.slice E)) (bt : ByteTy P E U) (hc1 : P.cellsOf E = 1) {H : Type} {enc : TypeId × Value → H} {W : World} {base : Nat} {sp : Nat → Bool} {hd : Bool} {A : Option Addr} {n cap : Nat} {d : DataW H} {pl : List MemPlace}
    (h : DataW.Trod enc P W base sp hd T (.slice A n cap) d pl) : ∃ ls : List (List UInt8), ls.length = n ∧ RV W (AllB W) ρ0 H0 (.rof 1 n (fun i _ => .rob (ls.getD i []))) (.slice A n cap) [] := by
  obtain ⟨fuel, hf⟩ := h
  rcases DataW.trod_slice ht hf with ⟨hcs, _⟩ | ⟨a, len, cap', elems, rest, m, _, hcs, _, hb, hl, hm, hlen, hel, _, _⟩
  · simp [Value.cells] at hcs
    obtain ⟨rfl, rfl, rfl⟩ := hcs
    exact ⟨[], rfl, .rof 1 0 _ none 0 0 0 (fun _ _ => undef) (Nat.le_refl _) (by simp [maxLen]) (fun i j hi => absurd hi (by omega)) (fun h => absurd h (by omega)) (fun i j hi => absurd hi (by omega)) (fun i j hi => absurd hi (by omega))⟩
  · simp [Value.cells] at hcs
    obtain ⟨rfl, rfl, rfl⟩ := hcs
    rw [hc1] at hel
    have each : ∀ i, i < n → ∃ q : List UInt8 × Value, W.cell? (a.add i) = some q.2 ∧ RV W (AllB W) ρ0 H0 (.rob q.1) q.2 [] := fun i hi => by
      have hi' : i < elems.length := by omega
      have e := hel i hi
      rw [Nat.mul_one, List.getElem?_eq_getElem hi', Option.bind_eq_some_iff] at e
      obtain ⟨cs, hcs, htr⟩ := e
      rcases DataW.trod_slice bt.sl htr with ⟨rfl, hx⟩ | ⟨a2, len2, cap2, el2, rest2, m2, _, rfl, hx, _⟩
      · exact ⟨([], .slice none 0 0), cell_of_cells?_one hcs, .rob [] none 0 0 ⟨rfl, Nat.le_refl _, by simp [maxLen], fun h => absurd h (by omega)⟩⟩
      · have hT : DataW.Trod enc P W base sp hd E (.slice (some a2) len2 cap2) elems[i].1 elems[i].2 := ⟨m, by simpa [Value.cells] using htr⟩
        obtain ⟨l, hrd⟩ := arg_bytes bt hT
        exact ⟨(l, .slice (some a2) len2 cap2), cell_of_cells?_one hcs, rv_bytes hrd⟩
    obtain ⟨qs, hq1, hq2⟩ := list_ofN n (([], undef) : List UInt8 × Value) each
    obtain ⟨b, off, spot⟩ := a
    have hspot : 0 < n → spot = none := fun hn => by
      have h0 := (hq2 0 hn).1
      simpa [Addr.add] using World.cell?_spot h0
    refine ⟨qs.map (·.1), by simpa using hq1, .rof 1 n _ _ cap b off (fun i _ => (qs.getD i ([], undef)).2) hl hm (fun _ _ _ _ => rfl) (fun hn => ?_) (fun i j hi hj => ?_) (fun i j hi hj => ?_)⟩
    · have hs := hspot hn
      subst hs
      have h0 := (hq2 0 hn).1
      rw [add_lit] at h0
      exact ⟨rfl, rowB h0⟩
    · have hs := hspot (by omega)
      subst hs
      have h0 := (hq2 i hi).1
      rw [add_lit] at h0
      obtain rfl : j = 0 := by omega
      rw [Nat.mul_one, Nat.add_zero]
      exact h0
    · have h0 := (hq2 i hi).2
      have e : (qs.map (·.1)).getD i [] = (qs.getD i ([], undef)).1 := by
        rw [List.getD_eq_getElem?_getD, List.getD_eq_getElem?_getD, List.getElem?_map, List.getElem?_eq_getElem (by omega)]
        rfl
      rw [e]
      exact h0
/-- An array of bytes. -/
theorem okWide_arr {P : Program} {T E : TypeId} {n : Nat} {w : World} {r : Reach} {base : Nat} {v : Value} (ht : P.underlying T = some (.array n E)) (h : Value.okWide P w r base T v) : ∃ cs, v = .agg cs := by
  unfold Value.okWide at h
  rw [ht] at h
  cases v <;> simp_all
theorem arg_arr {P : Program} {T E : TypeId} {k : Nat} (ht : P.underlying T = some (.array k E)) (hE : P.underlying E = some (.int .u8)) (hc1 : P.cellsOf E = 1) (hC : P.cellsOf T = k) {H : Type} {enc : TypeId × Value → H} {W : World} {r : Reach} {base b0 : Nat} {sp : Nat → Bool} {hd : Bool} {v : Value} {d : DataW H} {pl : List MemPlace}
    (hv : Value.okWide P W r b0 T v) (h : DataW.Trod enc P W base sp hd T v d pl) : ∃ l : List UInt8, l.length = k ∧ v = .agg (u8s l).toArray := by
  obtain ⟨cs, rfl⟩ := okWide_arr ht hv
  obtain ⟨fuel, hf⟩ := h
  obtain ⟨xs, m, _, _, hl, hx, hel⟩ := DataW.trod_array ht hf
  rw [hc1] at hel
  have hcl : cs.toList.length = k := hl.trans hC
  obtain ⟨l, hl1, hl2⟩ := list_ofN (α := UInt8) k (Q := fun i x => cs.toList[i]? = some (u8 x)) 0 (fun i hi => by
    have e := hel i hi
    rw [Nat.mul_one, List.getElem?_eq_getElem (by omega)] at e
    have hc : (cs.toList.drop i).take 1 = [cs.toList[i]'(by omega)] := by
      rw [List.drop_eq_getElem_cons (by omega), List.take_succ_cons, List.take_zero]
    have e' : DataW.trod enc P W base sp hd m E [cs.toList[i]'(by omega)] = some (xs[i]'(by omega)) := by rw [← hc]; exact e
    obtain ⟨a, ea, _, wf⟩ := DataW.trod_int hE e'
    simp only [List.cons.injEq, and_true] at ea
    have hr := u8r wf
    refine ⟨b8 a, ?_⟩
    rw [List.getElem?_eq_getElem (by omega), ea, u8_b8 hr.1 hr.2])
  refine ⟨l, hl1, ?_⟩
  have : cs.toList = u8s l := by
    apply List.ext_getElem?
    intro i
    by_cases hi : i < k
    · rw [hl2 i hi]
      simp [u8s, List.getElem?_map, List.getElem?_eq_getElem (show i < l.length by omega), List.getD_eq_getElem?_getD]
    · rw [List.getElem?_eq_none (by omega), List.getElem?_eq_none (by simp [u8s]; omega)]
  rw [← this]
end Go.Proofs.YtabkpoklihkifaaDoor

/- What a law's arguments read as: rows of elements of any kind. Over any program. -/
namespace Go.Proofs.YtabkpoklihkifaaDoor
open Go Go.RowKit Go.ChangeShapes Go.WideShapes
set_option linter.unusedVariables false
set_option linter.unusedSimpArgs false

theorem arg_rof {α : Type} {P : Program} {T E : TypeId} (ht : P.underlying T = some (.slice E)) (s : Nat) (hcs : P.cellsOf E = s) (h0 : 0 < s) (g : α → Nat → D) (d0 : α) (hp : ∀ a j, j < s → (g a j).pf0 = true) {H : Type} {enc : TypeId × Value → H} {W : World} {base : Nat} {sp : Nat → Bool} {hd : Bool} {A : Option Addr} {n cap : Nat} {d : DataW H} {pl : List MemPlace}
    (each : ∀ (m : Nat) (cs : List Value) (y : DataW H × List MemPlace), cs.length = s → DataW.trod enc P W base sp hd m E cs = some y → ∃ a : α, ∀ j, j < s → ∃ u, cs[j]? = some u ∧ RV W (AllB W) ρ0 H0 (g a j) u [])
    (h : DataW.Trod enc P W base sp hd T (.slice A n cap) d pl) : ∃ ls : List α, ls.length = n ∧ RV W (AllB W) ρ0 H0 (.rof s n (fun i j => g (ls.getD i d0) j)) (.slice A n cap) [] := by
  obtain ⟨fuel, hf⟩ := h
  rcases DataW.trod_slice ht hf with ⟨hcs', _⟩ | ⟨a, len, cap', elems, rest, m, _, hcs', _, hb, hl, hm, hlen, hel, _, _⟩
  · simp [Value.cells] at hcs'
    obtain ⟨rfl, rfl, rfl⟩ := hcs'
    exact ⟨[], rfl, .rof s 0 _ none 0 0 0 (fun _ _ => undef) (Nat.le_refl _) (by simp [maxLen]) (fun i j hi => absurd hi (by omega)) (fun h => absurd h (by omega)) (fun i j hi => absurd hi (by omega)) (fun i j hi => absurd hi (by omega))⟩
  · simp [Value.cells] at hcs'
    obtain ⟨rfl, rfl, rfl⟩ := hcs'
    rw [hcs] at hel
    have each' : ∀ i, i < n → ∃ q : α × (Nat → Value), ∀ j, j < s → W.cell? ((a.add (i * s)).add j) = some (q.2 j) ∧ RV W (AllB W) ρ0 H0 (g q.1 j) (q.2 j) [] := fun i hi => by
      have hi' : i < elems.length := by omega
      have e := hel i hi
      rw [List.getElem?_eq_getElem hi', Option.bind_eq_some_iff] at e
      obtain ⟨cs, hcs1, htr⟩ := e
      obtain ⟨q1, q2, q3⟩ := World.cells?_some hcs1
      obtain ⟨x, hx⟩ := each m cs _ q2 htr
      refine ⟨(x, fun j => cs.getD j undef), fun j hj => ?_⟩
      obtain ⟨u, hu, hr⟩ := hx j hj
      have e2 : cs.getD j undef = u := by rw [List.getD_eq_getElem?_getD, hu]; rfl
      simp only [e2]
      exact ⟨(q3 j hj).trans hu, hr⟩
    obtain ⟨qs, hq1, hq2⟩ := list_ofN n ((d0, fun _ => undef) : α × (Nat → Value)) each'
    obtain ⟨b, off, spot⟩ := a
    have hspot : 0 < n → spot = none := fun hn => by
      have h1 := ((hq2 0 hn) 0 h0).1
      simpa [Addr.add] using World.cell?_spot h1
    refine ⟨qs.map (·.1), by simpa using hq1, .rof s n _ _ cap b off (fun i j => (qs.getD i (d0, fun _ => undef)).2 j) hl hm (fun _ j _ hj => hp _ j hj) (fun hn => ?_) (fun i j hi hj => ?_) (fun i j hi hj => ?_)⟩
    · have hs := hspot hn
      subst hs
      have h1 := (hq2 0 hn 0 h0).1
      rw [add_lit, add_lit] at h1
      exact ⟨rfl, rowB h1⟩
    · have hs := hspot (by omega)
      subst hs
      have h1 := (hq2 i hi j hj).1
      rw [add_lit, add_lit, Nat.add_assoc] at h1
      exact h1
    · have h1 := (hq2 i hi j hj).2
      have e : (qs.map (·.1)).getD i d0 = (qs.getD i (d0, fun _ => undef)).1 := by
        rw [List.getD_eq_getElem?_getD, List.getD_eq_getElem?_getD, List.getElem?_map, List.getElem?_eq_getElem (by omega)]
        rfl
      rw [e]
      exact h1
/-- A slice of truths. -/
theorem arg_bools {P : Program} {T E : TypeId} (ht : P.underlying T = some (.slice E)) (hE : P.underlying E = some .bool) (hc1 : P.cellsOf E = 1) {H : Type} {enc : TypeId × Value → H} {W : World} {base : Nat} {sp : Nat → Bool} {hd : Bool} {A : Option Addr} {n cap : Nat} {d : DataW H} {pl : List MemPlace}
    (h : DataW.Trod enc P W base sp hd T (.slice A n cap) d pl) : ∃ ls : List Bool, ls.length = n ∧ RV W (AllB W) ρ0 H0 (.rof 1 n (fun i _ => .bool (ls.getD i false))) (.slice A n cap) [] :=
  arg_rof ht 1 hc1 (by omega) (fun (b : Bool) _ => .bool b) false (fun _ _ _ => rfl) (fun m cs y hl hy => by
    obtain ⟨b, rfl, _⟩ := DataW.trod_bool hE hy
    refine ⟨b, fun j hj => ?_⟩
    obtain rfl : j = 0 := by omega
    exact ⟨_, rfl, .bool b⟩) h
end Go.Proofs.YtabkpoklihkifaaDoor

/- The contract of bytes.Clone. -/
namespace Go.Proofs.YtabkpoklihkifaaDoor
open Go Go.RowKit
set_option linter.unusedVariables false
attribute [local go_sem] Lib.run_eql_slice_nil

theorem bt : ByteTy Tryd.prog 24 5 := ⟨Tryd.underlying24, Tryd.underlying5, by kernel_rfl⟩
/-- It returns bytes of its own, and nothing that was there has turned. -/
def RetB (w : World) (l : List UInt8) (e : Ending) (w' : World) : Prop :=
  ∃ A n cap, e = .returned (.slice A n cap) ∧ Own w' w.heap.size 5 A n cap l ∧ Below w.heap.size w w'
theorem clone_any {B : Nat} (A : Option Addr) (n cap : Nat) (l : List UInt8) (w : World) (rd : Rd w B A n cap l) (hn : n ≤ 140737488355328) :
    Calls Tryd.prog 27 #[.slice A n cap] w (RetB w l) := by
  have hown := Own.lit (E := 5) w (Nat.le_refl _) [] (by simp [maxLen]) #[] rfl w.heap.size 0 rfl rfl
  go_enter Tryd.func27, Tryd.ntmps27
  go_wp2_with (at_builtin; refine wpList_append_bytes _ rfl (.tmp 5) (.tmp 6) bt rfl w.heap.size _ _ _ _ rfl hown _ _ _ _ rfl (rd.alloc _) (by omega) (by simp) ?_; intro A' c' w1 own1 hg1 hb1)
  · go_ret
    have : n = 0 := by
      rcases Nat.eq_zero_or_pos n with h0 | h0
      · exact h0
      · obtain ⟨_, _, h, _⟩ := rd.cells h0
        subst h
        contradiction
    subst this
    have hl : l = [] := List.eq_nil_of_length_eq_zero rd.len
    subst hl
    exact ⟨none, 0, 0, rfl, Own.nil_ _ _ _, Below.refl _ _⟩
  · go_ret
    rw [Nat.zero_add] at own1
    exact ⟨A', n, c', rfl, own1, ((Below.refl _ _).alloc (Nat.le_refl _) _).grown hg1 (by simp) (by simp [blk])⟩
theorem own_nv {w : World} {B : Nat} {E : TypeId} {A : Option Addr} {n cap : Nat} {l : List UInt8} (h : Own w B E A n cap l) (S : Nat → Prop) : ∃ F, NV w S (.ownb l) (.slice A n cap) F ∧ F.Nodup ∧ ∀ b ∈ F, B ≤ b ∧ b < w.heap.size := by
  obtain ⟨h1, h2, h3, h4⟩ := h
  rw [u8s_length, Nat.mul_one] at h1
  rcases h4 with ⟨rfl, rfl⟩ | ⟨g, cur, fz, rfl, k1, k2, k3, k4, k5⟩
  · obtain rfl : n = 0 := by omega
    exact ⟨[], .ownb l _ _ _ [] #[] 0 h1 ⟨Nat.le_refl _, h3, .inl ⟨rfl, rfl, rfl⟩⟩ (fun i hi => absurd hi (by omega)), by simp, by simp⟩
  · refine ⟨[g], .ownb l _ _ _ [g] cur 0 h1 ⟨h2, h3, .inr ⟨g, E, fz, rfl, rfl, k2, k3, by omega⟩⟩ (fun i hi => ?_), by simp, fun b hb => ?_⟩
    · rw [Nat.zero_add]
      have : (cur.toList.take (n * 1))[i]? = some (u8 (gb l i)) := by
        rw [k5, u8s_get, gb_of (show i < l.length by omega)]
        rfl
      rw [List.getElem?_take, if_pos (by omega), Array.getElem?_toList] at this
      exact this
    · obtain rfl : b = g := by simpa using hb
      exact ⟨k1, (Array.getElem?_eq_some_iff.1 k2).1⟩
theorem clone_fc (G : Nat → Option D) (l : List UInt8) (hl : l.length ≤ 140737488355328) : FC Tryd.prog G 27 [.rob l] (.ownb l) none := by
  intro w S vs Fs hS hG h1 h2 h3 h4 h5
  rcases vs with _ | ⟨v, _ | ⟨v2, vs⟩⟩
  · simp at h1
  · rcases Fs with _ | ⟨F, _ | ⟨F2, Fs⟩⟩
    · simp at h2
    · have hv := h3 0 _ v F rfl rfl rfl
      cases hv with
      | rob _ A n cap h =>
        refine (clone_any A n cap l w (h.rd fun b hb => hS.lt hb) (by rw [← h.len]; exact hl)).mono ?_
        rintro e w' ⟨A', n', cap', rfl, hown, hb⟩
        obtain ⟨F, k1, k2, k3⟩ := own_nv hown S
        refine ⟨_, F, [], S, rfl, hb.os, hb.tape, hb.output, hb.size, Szs.same fun b hb' => hb.block b hb', fun b hb' _ => hb.block b hb', fun _ h => h, fun b hb' => ⟨Nat.lt_of_lt_of_le (hS.lt hb') hb.size, .inl hb'⟩, hS.same fun b hb' => hb.block b (hS.lt hb'), k1, rfl, by simpa using k2, fun b hb' => ?_⟩
        obtain ⟨q1, q2⟩ := k3 b (by simpa using hb')
        exact ⟨fun hSb => by have := hS.lt hSb; omega, q2, .inl q1⟩
    · simp at h2
  · simp at h1
end Go.Proofs.YtabkpoklihkifaaDoor

/- append to a row whose elements own rows. A contract over fewer tables serves over more. Over any program. -/
namespace Go.Proofs.YtabkpoklihkifaaDoor
open Go Go.RowKit
set_option linter.unusedVariables false
set_option linter.unusedSimpArgs false

theorem FC.more {P : Program} {G G' : Nat → Option D} {f : Nat} {ins : List D} {res : D} {outs : Option (List D)} (h : FC P G f ins res outs) (hm : ∀ g c, G g = some c → G' g = some c) : FC P G' f ins res outs :=
  fun w S vs Fs hS hG => h w S vs Fs hS (fun g c e => hG g c (hm g c e))
/-- No tables. -/
def GE : Nat → Option D := fun _ => none
theorem gpE : ∀ g cs, GE g = some cs → cs.pf0 = true := fun _ _ h => by cases h
theorem FC.any {P : Program} {G : Nat → Option D} {f : Nat} {ins : List D} {res : D} {outs : Option (List D)} (h : FC P GE f ins res outs) : FC P G f ins res outs := h.more (fun _ _ e => by cases e)

section
variable {C : Ctx} {s : St} {ρ : Nat → Pl} {S : Nat → Prop} {Φ : Nat → List Nat} {w : World}
theorem flat_rep (Fs : List (List Nat)) (k : Nat) : (Fs ++ List.replicate k []).flatten = Fs.flatten := by
  rw [List.flatten_append, flat_nil, List.append_nil]
theorem apo_core (h : RepW C s ρ S Φ w) (o : Nat) {T T2 E ty : TypeId} {z : Value} {esz by_ : Nat} (bt : SlTy C.P T E z esz by_) {cs : List D} (ho : (s.ob o).ct = some (.cells cs)) {vx : Value} {n : Nat} (hsl : SlAt (ρ o) (s.sh o) 0 n vx) (hes : (s.sh o).esz = esz) (hn : n * esz = cs.length)
    {x2 : Value} {m : Nat} {ys : List Value} (src : Src C.P w T2 x2 esz m ys) (hy : ys.length = m * esz) (h1 : ∀ u ∈ ys, u.oneCell' = true) (hlen : n + m ≤ maxLen) (hbytes : (n + m) * by_ ≤ 140737488355328) {ds : List D} (hpr : PR w S ρ s.sh ds ys) :
    Outc C s S ρ w ((Builtin.append_ #[T, T2] ty #[vx, x2]).run C.P w) (s.lay1 o esz (.cells (cs ++ ds))) (.sl o ((s.sh o).gen + 1) 0 (n + m)) := by
  have hob := h.ob o _ ho
  obtain ⟨hcl, hcase⟩ := hob
  have hpos := bt.pos
  by_cases hc0 : cs = []
  · subst hc0
    obtain ⟨A, cap, xs, rfl, hrow, hbb, hrd, hxr⟩ := h.row ho hsl (by rw [hes]; exact hpos) (fun i hi => by rw [hes, hn] at hi; cases hi)
    have hx0 : xs = [] := List.eq_nil_of_length_eq_zero (by rw [hrow.1, hes, hn]; rfl)
    subst hx0
    rw [hes] at hrow
    exact apn_core (ty := ty) h o bt hrow (fun h0 => ⟨by rw [ho]; rfl, hbb h0⟩) src hy h1 hlen hbytes (.cells ([] ++ ds)) (pr_fits hpr).1 (pr_fits hpr).2
  have hown := h.own o _ ho
  have hcs0 : 0 < cs.length := List.length_pos_iff.2 hc0
  have hn0 : 0 < n := by
    rcases Nat.eq_zero_or_pos n with e | e
    · rw [e, Nat.zero_mul] at hn; omega
    · exact e
  obtain ⟨A, cap, rfl, q1, q2, q3, q4⟩ := hsl
  rcases q4 with ⟨q4, _⟩ | ⟨rfl, q5⟩
  · omega
  rw [hes] at q3 q5
  rcases hcase with ⟨e, _⟩ | ⟨cur, E0, fz, Fs, hh, hz, hs, hb, hF, hfl, hct⟩
  · simp only [Cont.len] at e; omega
  simp only [Nat.add_zero] at q5
  have hlt0 : (ρ o).blk < w.heap.size := (Array.getElem?_eq_some_iff.1 hh).1
  have hbl : (ρ o).blk ∈ Φ o := by rw [hF]; simp
  have hnd : (ρ o).blk ∉ Fs.flatten ∧ Fs.flatten.Nodup := by
    have := hown.1
    rw [hF] at this
    exact List.nodup_cons.1 this
  have hFm : ∀ b ∈ Fs.flatten, b ∈ Φ o := fun b hb => by rw [hF]; exact List.mem_cons_of_mem _ hb
  obtain ⟨xs, hxs⟩ : ∃ xs, xs = (cur.toList.drop (ρ o).base).take (n * esz) := ⟨_, rfl⟩
  have hfit : (ρ o).base + n * esz ≤ cur.size := by
    have := Nat.mul_le_mul_right esz q1
    omega
  have hxl : xs.length = n * esz := by rw [hxs, List.length_take, List.length_drop, Array.length_toList]; omega
  have hrow : RowX w esz (some ⟨(ρ o).blk, (ρ o).base, none⟩) n cap xs (ρ o).blk := ⟨hxl, q1, q2, .inr ⟨(ρ o).base, cur, E0, fz, rfl, hh, hz, by omega, hxs.symm⟩⟩
  have hxg : ∀ i u, xs[i]? = some u → cur[(ρ o).base + i]? = some u := fun i u hu => by
    rw [hxs] at hu
    rw [← Array.getElem?_toList]
    exact drop_take_get hu
  obtain ⟨A', cap', w', hr, c1, c2, hos, htape, hout, hsz, hcase⟩ := run_append_x (P := C.P) (w := w) (ty := ty) bt hrow src hy h1 hlen hbytes
  rcases hcase with ⟨e, _⟩ | ⟨b', off, cur', E', fz', rfl, hh', hz', hfits, htk, hbc⟩
  · omega
  have hxy : (xs ++ ys).length = (n + m) * esz := by rw [List.length_append, hxl, hy, Nat.add_mul]
  have hw : ∀ k, k < w.heap.size → k ≠ (ρ o).blk → w'.heap[k]? = w.heap[k]? := by
    intro k hk hne
    rcases hbc with ⟨_, hold⟩ | ⟨_, rfl, _, _, hold⟩
    · exact hold k hk
    · exact hold k hne
  have hszs : Szs w w' := by
    rcases hbc with ⟨_, hold⟩ | ⟨_, rfl, _, ⟨cur0, E1, fz0, p1, p2⟩, hold⟩
    · exact Szs.same hold
    · intro k c1 E1 f1 hk
      by_cases hkb : k = (ρ o).blk
      · subst hkb
        rw [p1] at hk
        injection hk with hk
        injection hk with e1 e2 e3
        subst e1
        exact ⟨cur', E', fz', hh', p2⟩
      · exact ⟨c1, E1, f1, (hold k hkb).trans hk, rfl⟩
  have hlt : b' < w'.heap.size := (Array.getElem?_eq_some_iff.1 hh').1
  have hcur : ∀ i, i < (n + m) * esz → cur'[off + i]? = (xs ++ ys)[i]? := fun i hi => by
    rw [← htk, List.getElem?_take, if_pos hi, List.getElem?_drop, Array.getElem?_toList]
  have hds : ds.length = m * esz := by rw [← hpr.1, hy]
  have hlen2 : (cs ++ ds).length = (n + m) * esz := by rw [List.length_append, hds, ← hn, Nat.add_mul]
  have hnb : b' ∉ Fs.flatten := by
    intro hm
    rcases hbc with ⟨rfl, _⟩ | ⟨_, rfl, _⟩
    · have := (hown.2 _ (hFm _ hm)).2.1; omega
    · exact hnd.1 hm
  have hwS : ∀ b, S b → w'.heap[b]? = w.heap[b]? := fun b hb => hw b (h.s1 b hb).1 (fun e => (hown.2 _ hbl).1 (e ▸ hb))
  have hmono : ∀ (p : Pl) d v F, RV w S ρ s.sh d v F → (∀ b ∈ F, w'.heap[b]? = w.heap[b]?) → RV w' S (upd ρ o p) (upd s.sh o ⟨(s.sh o).gen + 1, esz, (cs ++ ds).length⟩) d v F := fun p d v F hr hF => by
    refine hr.mono (fun _ h => h) hwS (fun x => ?_) hF
    by_cases hx : x = o
    · subst hx
      rw [upd_same, upd_same]
      exact ⟨by show _ ≤ _ + 1; omega, fun e => absurd e (by show ¬ (_ + 1 = _); omega)⟩
    · rw [upd_other _ _ _ hx, upd_other _ _ _ hx]
      exact ⟨Nat.le_refl _, fun _ => ⟨rfl, rfl⟩⟩
  have hFl : Fs.length = cs.length := hfl
  have hone := h.one (w' := w') o (s.nxt o esz (.cells (cs ++ ds))) ⟨b', off, cur'.size⟩ (b' :: (Fs ++ List.replicate ds.length []).flatten) hos htape hout hsz hszs (.inl (by simp [St.nxt])) (fun b hb hn => hw b hb (fun e => hn (by rw [ho]; rfl) (e ▸ hbl)))
    (fun c' hc' => by
      have e : Cont.cells (cs ++ ds) = c' := by simpa [St.nxt] using hc'
      subst e
      refine ⟨rfl, .inr ⟨cur', E', fz', Fs ++ List.replicate ds.length [], hh', hz', rfl, ?_, rfl, by simp [hFl], fun i c u f p1 p2 p3 => ?_⟩⟩
      · show off + (cs ++ ds).length ≤ cur'.size
        rw [hlen2]
        have := Nat.mul_le_mul_right esz c1
        omega
      have hi : i < (n + m) * esz := by rw [← hlen2]; exact (List.getElem?_eq_some_iff.1 p1).1
      rw [hcur i hi] at p2
      by_cases hic : i < cs.length
      · rw [List.getElem?_append_left hic] at p1
        rw [List.getElem?_append_left (by rw [hxl, hn]; exact hic)] at p2
        rw [List.getElem?_append_left (by rw [hFl]; exact hic)] at p3
        exact hmono _ c u f (hct i c u f p1 (hxg i u p2) p3) (fun b hb => hw b (hown.2 b (hFm b (mem_flat_of p3 hb))).2.1 (fun e => hnd.1 (e ▸ mem_flat_of p3 hb)))
      · rw [List.getElem?_append_right (by omega)] at p1
        rw [List.getElem?_append_right (by rw [hxl, hn]; omega), hxl, hn] at p2
        rw [List.getElem?_append_right (by rw [hFl]; omega), hFl, List.getElem?_replicate] at p3
        split at p3
        · injection p3 with p3
          subst p3
          exact hmono _ c u [] (hpr.2 _ c u p1 p2) (by simp)
        · cases p3)
    (fun _ => by
      rw [flat_rep]
      refine ⟨List.nodup_cons.2 ⟨hnb, hnd.2⟩, fun b hb => ?_⟩
      rcases List.mem_cons.1 hb with rfl | hb
      · rcases hbc with ⟨rfl, _⟩ | ⟨_, rfl, _⟩
        · refine ⟨fun e => by have := (h.s1 _ e).1; omega, hlt, .inl h.size, fun e => by have := (Array.getElem?_eq_some_iff.1 (h.dk _ e)).1; omega, fun o' c' ho' hc' hm => ?_⟩
          have := ((h.own o' c' hc').2 _ hm).2.1
          omega
        · have := hown.2 _ hbl
          exact ⟨this.1, hlt, this.2.2.1, this.2.2.2, fun o' c' ho' hc' => h.dis o o' _ c' ho hc' (Ne.symm ho') _ hbl⟩
      · have hb' := hFm b hb
        have := hown.2 _ hb'
        exact ⟨this.1, Nat.lt_of_lt_of_le this.2.1 hsz, this.2.2.1, this.2.2.2, fun o' c' ho' hc' => h.dis o o' _ c' ho hc' (Ne.symm ho') _ hb'⟩)
  exact ⟨_, w', _, _, hr, hone.1, hone.2, lay_sl o esz (.cells (cs ++ ds)) ⟨b', off, cur'.size⟩ (n + m) cap' c1 c2 (by show (n + m) * esz ≤ (cs ++ ds).length; rw [hlen2]; exact Nat.le_refl _) hfits⟩
end

/-- append to a whole row whose elements own rows. -/
def apoD (Ti : Nat → TI) (O : Nat → Ob) (T T2 : TypeId) (x y : D) : Option (Prop × Nat × Nat × Cont × Nat × List Nat) :=
  match (Ti T).ty with
  | .slice e =>
    match els O (Ti e).sz y with
    | some (gy, ys, ny, Ry) =>
      match x with
      | .sl o g off len =>
        match (O o).ct with
        | some (.cells cs) => some ((gy ∧ (Ti T2).ty = .slice e ∧ ys.all D.sc = true ∧ off = 0 ∧ len * (Ti e).sz = cs.length ∧ g = (O o).sh.gen ∧ (O o).sh.esz = (Ti e).sz ∧ 0 < (Ti e).sz ∧ (Ti e).zero.cells.length = (Ti e).sz ∧ (Ti e).zero.cells.all D.sc = true ∧ 0 < (Ti e).by_ ∧ (len + ny) * (Ti e).by_ ≤ 140737488355328),
            o, (Ti e).sz, .cells (cs ++ ys), len + ny, o :: Ry)
        | _ => none
      | _ => none
    | none => none
  | _ => none
section
variable {C : Ctx} {s : St} {ρ : Nat → Pl} {S : Nat → Prop} {Φ : Nat → List Nat} {w : World}
theorem apo_ok (h : RepW C s ρ S Φ w) {T T2 ty : TypeId} {x y : D} {g : Prop} {o esz : Nat} {c : Cont} {n : Nat} {R : List Nat} (e : apoD (tiOf C.P) s.ob T T2 x y = some (g, o, esz, c, n, R)) (hg : g) {vx vy : Value} (hx : RV w S ρ s.sh x vx []) (hy : RV w S ρ s.sh y vy []) :
    Outc C s S ρ w ((Builtin.append_ #[T, T2] ty #[vx, vy]).run C.P w) (s.lay1 o esz c) (.sl o ((s.sh o).gen + 1) 0 n) := by
  unfold apoD at e
  split at e
  · rename_i el ht
    split at e
    · rename_i gy ys ny Ry he
      have hzne : (tiOf C.P el).zero.cells.all D.sc = true → (tiOf C.P el).zero ≠ .bot := fun h e => by rw [e] at h; simp [D.cells, D.sc] at h
      split at e
      · rename_i o' g' off len
        split at e
        · rename_i cs ho
          injection e with e; injection e with e1 e2; injection e2 with e2 e3; injection e3 with e3 e4; injection e4 with e4 e5; injection e5 with e5 e6; subst e1; subst e2; subst e3; subst e4; subst e5
          obtain ⟨g1, gT, g2, rfl, gs, gg, ge, g3, g4, g5, g6, g7⟩ := hg
          obtain ⟨xs, hsrc, hpr, hxl⟩ := els_ok h gT g3 he g1 g2 hy
          obtain ⟨z, hz⟩ := slTy_of (P := C.P) ht (hzne g5) g4 g5 g3
          have hm : len + ny ≤ maxLen := by have := Nat.le_mul_of_pos_right (len + ny) g6; simp [maxLen]; omega
          exact apo_core (ty := ty) h o' hz ho (inv_sl hx gg) ge gs hsrc hxl (hpr.one_ g2) hm g7 hpr
        · cases e
      · cases e
    · cases e
  · cases e
theorem apoD_loc {P : Program} {O O' : Nat → Ob} {T T2 : TypeId} {x y : D} {g : Prop} {o esz : Nat} {c : Cont} {n : Nat} {R : List Nat} (e : apoD (tiOf P) O T T2 x y = some (g, o, esz, c, n, R)) (h : ∀ o ∈ R, O' o = O o) : apoD (tiOf P) O' T T2 x y = some (g, o, esz, c, n, R) ∧ o ∈ R := by
  unfold apoD at *
  split at e
  · rename_i el ht
    split at e
    · rename_i gy ys ny Ry he
      split at e
      · rename_i o' g' off len
        split at e
        · rename_i cs ho
          injection e with e; injection e with e1 e2; injection e2 with e2 e3; injection e3 with e3 e4; injection e4 with e4 e5; injection e5 with e5 e6; subst e1; subst e2; subst e3; subst e4; subst e5; subst e6
          have q := h o' (by simp)
          have he' : els O' (tiOf P el).sz y = some (gy, ys, ny, Ry) := by
            rw [← he]
            unfold els at he ⊢
            cases y with
            | sl o2 g2 off2 len2 =>
              have hR : o2 ∈ Ry := by
                dsimp only at he
                split at he
                · injection he with he; injection he with a1 a2; injection a2 with a2 a3; injection a3 with a3 a4; rw [← a4]; simp
                · cases he
              dsimp only
              rw [h o2 (List.mem_cons_of_mem _ hR)]
            | _ => rfl
          simp only [ht, he', q, ho]
          exact ⟨trivial, List.mem_cons_self⟩
        · cases e
      · cases e
    · cases e
  · cases e
variable {t : Nat} {pos : String} {after : Array Edge} {gd : Option (Nat × Bool)} {ty : TypeId}
theorem eff_apo {dst : Option Tmp} (T T2 : TypeId) (x y : Operand) {g : Prop} {o esz : Nat} {c : Cont} {n : Nat} {R : List Nat} (e : apoD (tiOf C.P) s.ob T T2 (ev C s x) (ev C s y) = some (g, o, esz, c, n, R)) (hg : g) (hd : dstOk C.n dst) :
    Eff C ⟨dst, .call { callee := .builtin .append, args := #[x, y], argTypes := #[T, T2] }, ty, pos, after, gd⟩ s (.sl o ((s.ob o).sh.gen + 1) 0 n) [(o, nob s o esz c)] (opT x ++ opT y) R :=
  eff_lay hd fun σ hT hR a w ρ S Φ h1 h2 => by
    obtain ⟨q1, q2⟩ := opT2 (C := C) hT
    rw [← q1, ← q2] at e
    obtain ⟨e', ho⟩ := apoD_loc e hR
    have h := apo_ok (ty := ty) h1 e' hg (ev_rv h1 h2 x) (ev_rv h1 h2 y)
    rw [nob_same (hR o ho), ← gen_same (hR o ho)]
    exact ⟨_, by simp [execOp, resolve, invoke, builtin], h⟩
variable {Ti : Nat → TI} {G : Nat → Option D} {n : Nat} {ops : Array Oper} {acc acc' : Acc} {rest rest' : List Oper} {s1 s2 : St} {K : Acc → St → Prop} {W : St → St → Prop}
/-- That operation in a region. -/
theorem AO_ {sl : List (Nat × D)} {hp : List (Nat × Ob)} {dk : List Nat} {t : Nat} {T T2 : TypeId} {x y : Operand} {ty : TypeId} {pos : String} {after : Array Edge} {gd : Option (Nat × Bool)} {g : Prop} {dx dy : D} {o esz k γ : Nat} {c : Cont} {R : List Nat} (hE : Env C Ti G n)
    (hk : RG C ops W (([o], R) :: acc) rest s2 K)
    (hx : frc (evg G ⟨sl, hp, dk⟩ x) = some dx := by exact rfl) (hy : frc (evg G ⟨sl, hp, dk⟩ y) = some dy := by exact rfl)
    (hc : gcO ops ⟨sl, hp, dk⟩ gd = .yes := by exact rfl) (hb : dstB n (some t) = true := by exact rfl) (e : apoD Ti (⟨sl, hp, dk⟩ : St).ob T T2 dx dy = some (g, o, esz, c, k, R) := by exact rfl) (hg : g := by exact sg_)
    (hγ : ((⟨sl, hp, dk⟩ : St).ob o).sh.gen + 1 = γ := by exact nc_)
    (hs : (⟨(t, .sl o γ 0 k) :: sl, (o, ⟨⟨γ, esz, c.len⟩, some c⟩) :: hp, dk⟩ : St) = s2 := by exact nr_) : RG C ops W acc (⟨some t, .call { callee := .builtin .append, args := #[x, y], argTypes := #[T, T2] }, ty, pos, after, gd⟩ :: rest) ⟨sl, hp, dk⟩ K := by
  subst hγ
  subst hs
  intro M hM hW hend
  have hx' := frc_ok hx
  have hy' := frc_ok hy
  rw [← hE.g, ← ev_g] at hx' hy'
  rw [← hE.ti] at e
  rw [← hx', ← hy'] at e
  refine hM.step _ _ _ _ _ [(o, nob ⟨sl, hp, dk⟩ o esz c)] R (effG_yes (o := ⟨some t, _, ty, pos, after, gd⟩) hc ((eff_apo T T2 x y e hg (dstB_ok hE hb)).weak ?_ (fun _ h => h))) (hk M hM hW hend)
  intro z hz
  simp only [opsT, Op.operands, Call.operands, List.mem_flatMap] at hz ⊢
  rcases List.mem_append.1 hz with hz | hz
  · exact ⟨x, by simp, hz⟩
  · exact ⟨y, by simp, hz⟩
end
end Go.Proofs.YtabkpoklihkifaaDoor

/- A cell that is a nil slice owns no elements. Over any program. -/
namespace Go.Proofs.YtabkpoklihkifaaDoor
open Go Go.RowKit
set_option linter.unusedVariables false
set_option linter.unusedSimpArgs false
theorem knilcs {C : Ctx} {sl : List (Nat × D)} {hp : List (Nat × Ob)} {dk : List Nat} (o i e : Nat) {sh : Sh} {cs cs' : List D} (ho : (⟨sl, hp, dk⟩ : St).ob o = ⟨sh, some (.cells cs)⟩) (hi : cs[i]? = some .nilS) (hcs : cs.set i (.owns e 0 []) = cs') :
    Wk C ⟨sl, hp, dk⟩ ⟨sl, (o, ⟨sh, some (.cells cs')⟩) :: hp, dk⟩ := by
  subst hcs
  rintro a w ⟨h1, h2, ρ, S, Φ, h3, h4⟩
  have hct : ((⟨sl, hp, dk⟩ : St).ob o).ct = some (.cells cs) := by rw [ho]
  have hsh : (⟨sl, hp, dk⟩ : St).sh o = sh := by unfold St.sh; rw [ho]
  obtain ⟨q1, q2⟩ := h3.ob o _ hct
  have hil : i < cs.length := (List.getElem?_eq_some_iff.1 hi).1
  obtain ⟨k1, k2⟩ := h3.one (w' := w) o ⟨sh, some (.cells (cs.set i (.owns e 0 [])))⟩ (ρ o) (Φ o) rfl rfl rfl (Nat.le_refl _) (Szs.refl w) (.inr ⟨hsh.symm, rfl⟩) (fun _ _ _ => rfl) (fun c' hc' => by
    have e1 : Cont.cells (cs.set i (.owns e 0 [])) = c' := by simpa using hc'
    subst e1
    rw [upd_self]
    have e2 : upd (⟨sl, hp, dk⟩ : St).sh o (⟨sh, some (.cells (cs.set i (.owns e 0 [])))⟩ : Ob).sh = (⟨sl, hp, dk⟩ : St).sh := by
      show upd _ o sh = _
      rw [← hsh]; exact upd_self _ o
    rw [e2]
    rw [hsh] at q1
    refine ⟨by simpa [Cont.len] using q1, ?_⟩
    rcases q2 with ⟨z1, z2, z3⟩ | ⟨cur, E, fz, Fs, hh, hz, hs, hb, hF, hfl, hc⟩
    · exact .inl ⟨by simpa [Cont.len] using z1, z2, z3⟩
    · refine .inr ⟨cur, E, fz, Fs, hh, hz, hs, by simpa [Cont.len] using hb, hF, by simpa using hfl, fun j c u f p1 p2 p3 => ?_⟩
      rw [List.getElem?_set] at p1
      by_cases hij : i = j
      · subst hij
        rw [if_pos rfl, if_pos hil] at p1
        injection p1 with p1
        subst p1
        have hv := hc i _ u f hi p2 p3
        cases hv
        exact .owns e 0 [] _ _ [] [] [] #[] 0 (by simp) ⟨Nat.le_refl _, by simp [maxLen], .inl ⟨rfl, rfl, rfl⟩⟩ rfl rfl (fun i c u f h => by simp at h)
      · rw [if_neg hij] at p1
        exact hc j c u f p1 p2 p3) (fun _ => ⟨(h3.own o _ hct).1, fun b hb => ⟨((h3.own o _ hct).2 b hb).1, ((h3.own o _ hct).2 b hb).2.1, ((h3.own o _ hct).2 b hb).2.2.1, ((h3.own o _ hct).2 b hb).2.2.2, fun o' c' hne hc' => h3.dis o o' _ c' hct hc' (Ne.symm hne) b hb⟩⟩)
  rw [upd_self, upd_self] at k1
  rw [upd_self] at k2
  exact ⟨h1, h2, ρ, S, Φ, k1, fun t => k2 _ _ (h4 t)⟩
end Go.Proofs.YtabkpoklihkifaaDoor
