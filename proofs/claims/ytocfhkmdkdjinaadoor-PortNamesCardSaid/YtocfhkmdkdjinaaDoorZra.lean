/- What the claim leans on, text Zra: Wd3, Rad, Ra1, Same, Wd4, Bcs, Ra12, Cow. No condition beyond what each lemma states. -/
import Derived.Test.YtocfhkmdkdjinaaDoorZd
import Derived.Test.YtocfhkmdkdjinaaDoorZa
import Derived.Test.YtocfhkmdkdjinaaDoorZt

/- Rules of walks over rows of attributes (two cells each): lending and giving them; a call of a function that stands in a slot; a result that stands in a cell beside one that does not. Over any program. -/
namespace Go.Proofs.YtocfhkmdkdjinaaDoor
open Go Go.RowKit
set_option linter.unusedVariables false
set_option linter.unusedSimpArgs false

/-- Attributes as cells: their values read only, owned, strings. -/
def atR (L : List (Int × List UInt8)) : List D := L.flatMap fun a => [.int .i64 a.1, .rob a.2]
def atO (L : List (Int × List UInt8)) : List D := L.flatMap fun a => [.int .i64 a.1, .ownb a.2]
def atS (L : List (Int × List UInt8)) : List D := L.flatMap fun a => [.int .i64 a.1, .str a.2]
def fR (L : List (Int × List UInt8)) (i j : Nat) : D :=
  match j with
  | 0 => .int .i64 (L.getD i (0, [])).1
  | _ => .rob (L.getD i (0, [])).2
def fS (L : List (Int × List UInt8)) (i j : Nat) : D :=
  match j with
  | 0 => .int .i64 (L.getD i (0, [])).1
  | _ => .str (L.getD i (0, [])).2
theorem flat2_len {α β : Type} (f g : α → β) : ∀ L : List α, (L.flatMap fun a => [f a, g a]).length = L.length * 2
  | [] => rfl
  | a :: L => by
    rw [List.flatMap_cons, List.length_append, flat2_len f g L]
    simp
    omega
theorem flat2_get0 {α β : Type} (f g : α → β) : ∀ (L : List α) (i : Nat) (h : i < L.length), (L.flatMap fun a => [f a, g a])[i * 2]? = some (f L[i])
  | a :: L, 0, h => rfl
  | a :: L, i + 1, h => by
    rw [List.flatMap_cons, List.getElem?_append_right (by simp; omega), show (i + 1) * 2 - [f a, g a].length = i * 2 by simp; omega]
    exact flat2_get0 f g L i (by simpa using h)
theorem flat2_get1 {α β : Type} (f g : α → β) : ∀ (L : List α) (i : Nat) (h : i < L.length), (L.flatMap fun a => [f a, g a])[i * 2 + 1]? = some (g L[i])
  | a :: L, 0, h => rfl
  | a :: L, i + 1, h => by
    rw [List.flatMap_cons, List.getElem?_append_right (by simp; omega), show (i + 1) * 2 + 1 - [f a, g a].length = i * 2 + 1 by simp; omega]
    exact flat2_get1 f g L i (by simpa using h)
theorem atR_len (L : List (Int × List UInt8)) : (atR L).length = L.length * 2 := flat2_len _ _ L
theorem atO_len (L : List (Int × List UInt8)) : (atO L).length = L.length * 2 := flat2_len _ _ L
theorem atS_len (L : List (Int × List UInt8)) : (atS L).length = L.length * 2 := flat2_len _ _ L
theorem getD_at (L : List (Int × List UInt8)) {i : Nat} (h : i < L.length) : L.getD i (0, []) = L[i] := by rw [List.getD_eq_getElem?_getD, List.getElem?_eq_getElem h]; rfl
theorem atR_get (L : List (Int × List UInt8)) (i j : Nat) (h : i < L.length) (hj : j < 2) : (atR L)[i * 2 + j]? = some (fR L i j) ∧ (fR L i j).pf0 = true := by
  rcases j with _ | _ | j
  · exact ⟨by unfold fR; rw [getD_at L h]; exact flat2_get0 _ _ L i h, rfl⟩
  · exact ⟨by unfold fR; rw [getD_at L h]; exact flat2_get1 _ _ L i h, rfl⟩
  · omega
theorem atS_get (L : List (Int × List UInt8)) (i j : Nat) (h : i < L.length) (hj : j < 2) : (atS L)[i * 2 + j]? = some (fS L i j) ∧ (fS L i j).pf0 = true := by
  rcases j with _ | _ | j
  · exact ⟨by unfold fS; rw [getD_at L h]; exact flat2_get0 _ _ L i h, rfl⟩
  · exact ⟨by unfold fS; rw [getD_at L h]; exact flat2_get1 _ _ L i h, rfl⟩
  · omega
theorem atR_app (L M : List (Int × List UInt8)) : atR L ++ atR M = atR (L ++ M) := by unfold atR; rw [List.flatMap_append]
theorem atO_app (L M : List (Int × List UInt8)) : atO L ++ atO M = atO (L ++ M) := by unfold atO; rw [List.flatMap_append]
theorem atS_app (L M : List (Int × List UInt8)) : atS L ++ atS M = atS (L ++ M) := by unfold atS; rw [List.flatMap_append]
theorem atR_snoc (L : List (Int × List UInt8)) (k : Int) (v : List UInt8) : atR L ++ [.int .i64 k, .rob v] = atR (L ++ [(k, v)]) := by rw [← atR_app]; rfl
theorem atO_snoc (L : List (Int × List UInt8)) (k : Int) (v : List UInt8) : atO L ++ [.int .i64 k, .ownb v] = atO (L ++ [(k, v)]) := by rw [← atO_app]; rfl
theorem atS_snoc (L : List (Int × List UInt8)) (k : Int) (v : List UInt8) : atS L ++ [.int .i64 k, .str v] = atS (L ++ [(k, v)]) := by rw [← atS_app]; rfl
theorem at_all (p : D → Bool) (f g : Int × List UInt8 → D) (hf : ∀ a, p (f a) = true) (hg : ∀ a, p (g a) = true) (L : List (Int × List UInt8)) : (L.flatMap fun a => [f a, g a]).all p = true := by
  rw [List.all_flatMap]
  exact List.all_eq_true.2 fun a _ => by simp [hf, hg]
theorem atR_sc (L : List (Int × List UInt8)) : (atR L).all D.sc = true := at_all _ _ _ (fun _ => rfl) (fun _ => rfl) L
theorem atR_pf (L : List (Int × List UInt8)) : (atR L).all D.pf1 = true := at_all _ _ _ (fun _ => rfl) (fun _ => rfl) L
theorem atR_fr (L : List (Int × List UInt8)) : (atR L).all D.fr0 = true := at_all _ _ _ (fun _ => rfl) (fun _ => rfl) L
theorem atO_fr (L : List (Int × List UInt8)) : (atO L).all D.fr0 = true := at_all _ _ _ (fun _ => rfl) (fun _ => rfl) L
theorem atO_nr (L : List (Int × List UInt8)) : (atO L).all D.nr0 = true := at_all _ _ _ (fun _ => rfl) (fun _ => rfl) L
theorem atS_sc (L : List (Int × List UInt8)) : (atS L).all D.sc = true := at_all _ _ _ (fun _ => rfl) (fun _ => rfl) L
theorem atS_pf (L : List (Int × List UInt8)) : (atS L).all D.pf1 = true := at_all _ _ _ (fun _ => rfl) (fun _ => rfl) L
theorem atS_fr (L : List (Int × List UInt8)) : (atS L).all D.fr0 = true := at_all _ _ _ (fun _ => rfl) (fun _ => rfl) L
theorem atS_nr (L : List (Int × List UInt8)) : (atS L).all D.nr0 = true := at_all _ _ _ (fun _ => rfl) (fun _ => rfl) L
theorem atO_frz (L : List (Int × List UInt8)) : (atO L).map frz = atR L := by
  unfold atO atR
  rw [List.map_flatMap]
  rfl
/-- Lent as a row of rows. -/
theorem mat_r2 {s : St} {o g len : Nat} {L : List (Int × List UInt8)} (ho : (s.ob o).ct = some (.cells (atR L))) (hg : g = (s.sh o).gen) (he : (s.sh o).esz = 2) (hl : len = L.length) : Mat s (.sl o g 0 len) (.rof 2 L.length (fR L)) [] [o] := by
  subst hl
  refine .cnv _ (.ros 2 L.length (atR L)) _ _ _ (.sl_rs o g 0 L.length 2 (atR L) (atR L) [] ho hg he (by decide) ?_ ?_) (ros_rof fun i j hi hj => atR_get L i j hi hj)
  · rw [← atR_len, List.drop_zero, List.take_length]; exact atR_sc L
  · rw [← atR_len, List.drop_zero, List.take_length]; exact .tall _ (atR_pf L)
theorem mat_s2 {s : St} {o g len : Nat} {L : List (Int × List UInt8)} (ho : (s.ob o).ct = some (.cells (atS L))) (hg : g = (s.sh o).gen) (he : (s.sh o).esz = 2) (hl : len = L.length) : Mat s (.sl o g 0 len) (.rof 2 L.length (fS L)) [] [o] := by
  subst hl
  refine .cnv _ (.ros 2 L.length (atS L)) _ _ _ (.sl_rs o g 0 L.length 2 (atS L) (atS L) [] ho hg he (by decide) ?_ ?_) (ros_rof fun i j hi hj => atS_get L i j hi hj)
  · rw [← atS_len, List.drop_zero, List.take_length]; exact atS_sc L
  · rw [← atS_len, List.drop_zero, List.take_length]; exact .tall _ (atS_pf L)
theorem mat_n2 {s : St} {f : Nat → Nat → D} : Mat s .nilS (.rof 2 0 f) [] [] := .cnv _ (.ros 2 0 []) _ _ _ (.nil_rs 2) (ros_rof fun i j hi => absurd hi (by omega))
/-- Given to the readers. -/
theorem kgr2 {C : Ctx} {sl : List (Nat × D)} {hp : List (Nat × Ob)} {dk : List Nat} (t o : Nat) {sh : Sh} {L : List (Int × List UInt8)} {g len : Nat} (ho : (⟨sl, hp, dk⟩ : St).ob o = ⟨sh, some (.cells (atR L))⟩ := by exact rfl) (he : frc (look .bot sl t) = some (.sl o g 0 len) := by exact rfl) (hg : g = sh.gen := by exact rfl) (he1 : sh.esz = 2 := by exact rfl) (hl : len = L.length := by first | rfl | simp | omega) :
    Wk C ⟨sl, hp, dk⟩ ⟨(t, .rof 2 L.length (fR L)) :: sl, (o, ⟨sh, none⟩) :: hp, dk⟩ :=
  kgive t o ho he (mat_r2 (by rw [ho]) (by unfold St.sh; rw [ho]; exact hg) (by unfold St.sh; rw [ho]; exact he1) hl) rfl
theorem kgs2 {C : Ctx} {sl : List (Nat × D)} {hp : List (Nat × Ob)} {dk : List Nat} (t o : Nat) {sh : Sh} {L : List (Int × List UInt8)} {g len : Nat} (ho : (⟨sl, hp, dk⟩ : St).ob o = ⟨sh, some (.cells (atS L))⟩ := by exact rfl) (he : frc (look .bot sl t) = some (.sl o g 0 len) := by exact rfl) (hg : g = sh.gen := by exact rfl) (he1 : sh.esz = 2 := by exact rfl) (hl : len = L.length := by first | rfl | simp | omega) :
    Wk C ⟨sl, hp, dk⟩ ⟨(t, .rof 2 L.length (fS L)) :: sl, (o, ⟨sh, none⟩) :: hp, dk⟩ :=
  kgive t o ho he (mat_s2 (by rw [ho]) (by unfold St.sh; rw [ho]; exact hg) (by unfold St.sh; rw [ho]; exact he1) hl) rfl
section
variable {C : Ctx} {Ti : Nat → TI} {G : Nat → Option D} {n : Nat} {ops : Array Oper} {acc acc' : Acc} {rest rest' : List Oper} {s s1 s2 : St} {K : Acc → St → Prop} {W : St → St → Prop}
/-- A call of a function that stands in a slot. -/
theorem rcv_ {P : Program} (hE : Env C Ti G n) (hP : C.P = P) {dst : Option Tmp} {t f : Nat} {args : Array Operand} {ts : Array TypeId} {ty : TypeId} {pos : String} {after : Array Edge} {gd : Option (Nat × Bool)} {ins : List D} {res d1 : D} {outs : Option (List D)} (fc : FC P G f ins res outs) {fn : Func} (hfn : P.funcs[f]? = some fn)
    {own fro : List Nat} {obs : List (Nat × Ob)} {nm R : List Nat} (hk : RG C ops W ((nm, R) :: acc) rest s2 K) (hf : frc (s.slot t) = some (.fn f) := by exact rfl)
    (h2 : (fn.name == "runtime.NumGoroutine") = false := by exact rfl) (h3 : fn.body.isNone = false := by exact rfl) (hm : Mat s (.tup (args.toList.map (evg G s))) (.tup ins) own fro := by exact ma_) (hnd : own.Nodup := by decide) (hdis : ∀ o ∈ own, o ∉ fro := by decide)
    (hnr : fro = [] ∨ (res.nr = true ∧ ∀ cs, outs = some cs → cs.all D.nr0 = true) := by first | exact .inl rfl | exact .inr ⟨rfl, fun _ h => by cases h <;> rfl⟩) (had : res.ad = true := by first | rfl | simp [D.ad, D.adL, D.ad1, D.fr0, D.pf, D.pf1, D.pf0]) (hout : RcvOk s outs own (args.toList.map (evg G s)) := by exact rk_) (hd : dstB n dst = true := by exact rfl) (hgd : gcO ops s gd = .yes := by exact rfl)
    (ho : outO s outs own ++ (adO s.ob (dst.getD 0) res).2 = obs := by exact nc_) (hd1 : (adO s.ob (dst.getD 0) res).1 = d1 := by exact nc_) (hs : (s.lays obs).puto dst d1 = s2 := by exact nr_) (hnm : obs.map (·.1) = nm := by exact nc_) (hR : own ++ fro ++ (adO s.ob (dst.getD 0) res).2.map (·.1) = R := by exact nc_) :
    RG C ops W acc (⟨dst, .call { callee := .value (.tmp t), args := args, argTypes := ts }, ty, pos, after, gd⟩ :: rest) s K := by
  subst hs; subst hd1; subst hR; subst ho; subst hnm
  intro M hM hW hend
  refine hM.step _ _ _ _ _ _ _ (effG_yes (o := ⟨dst, .call { callee := .value (.tmp t), args := args, argTypes := ts }, ty, pos, after, gd⟩) hgd ((eff_call (P := P) (G := G) (fo := .tmp t) (xs := args.toList) (frc_ok hf) (fnOk_of hfn h2 h3) fc hP hE.g (by rw [ev_g, hE.g]; exact hm) hnd hdis hnr had (by rw [ev_g, hE.g]; exact hout) (dstB_ok hE hd)).weak ?_ (fun _ h => h))) (hk M hM hW hend)
  intro z hz
  simp only [opsT, Op.operands, Call.operands, List.mem_flatMap] at hz ⊢
  rcases List.mem_append.1 hz with hz | hz
  · exact ⟨.tmp t, by simp, hz⟩
  · obtain ⟨x, hx, hz⟩ := List.mem_flatMap.1 hz
    exact ⟨x, by simp [hx], hz⟩
end
/-! A result that stands in a cell, beside one that stands in a slot. -/
theorem run_resultsCT {w : World} {fn : Func} {t ty u : Nat} {v : Value} {tmps : Array Value} {P : Program} (h : fn.results = #[.cell t ty, .tmp u]) (hv : (do loadVar ty (← asAddr (tmps.getD t undef))).run P w = .ok v w) : (results fn tmps).run P w = .ok (.tuple #[v, tmps.getD u undef]) w := by
  simp only [results, h]
  have e1 : (asAddr (tmps.getD t undef) >>= fun a => loadVar ty a).run P w = .ok v w := hv
  simp only [Array.mapM_eq_mapM_toList, List.mapM_cons, List.mapM_nil, map_eq_pure_bind, bind_assoc, pure_bind]
  rw [← bind_assoc, Sem.run_bind, e1]
  rfl
structure RetCT (Ti : Nat → TI) (t ty u : Nat) (res : D) (outs : Option (List D)) (e : Exit) (s : St) : Prop where
  e : e = .normal ∨ e = .ret
  fin : ∃ g d R, ldD Ti s.ob ty (s.slot t) = some (g, d, R) ∧ g ∧ Fin [t, u] res outs (s.put t d)
theorem fc_ofct {P : Program} {Ti : Nat → TI} {G : Nat → Option D} {f : Nat} {fn : Func} {c : Code} {ins : List D} {res : D} {outs : Option (List D)} {t ty u : Nat} (hti : tiOf P = Ti) (gp : ∀ g cs, G g = some cs → cs.pf0 = true)
    (hf : P.funcs[f]? = some fn) (hb : fn.body = some c) (hrs : fn.results = #[.cell t ty, .tmp u]) (ht : t < fn.ntmps) (hne : t ≠ u) (hn : ins.length ≤ fn.ntmps) (had : D.adL ins = true) (ho : OutOk ins outs)
    (h : ∀ C, CxOk P Ti G fn.ntmps outs C → VC C c (inSt ins) (RetCT Ti t ty u res outs)) : FC P G f ins res outs := by
  intro w S vs Fs hS hG h1 h2 h3 h4 h5
  refine (callsIn_wide (n := 3)).1 (callsIn_of_wp_marks hf hb trivial ?_)
  have hrep := in_rep (P := P) (n := fn.ntmps) (outs := outs) gp had hn ho hS hG h1 h2 h3 h4 h5
  have hw := h _ ⟨⟨hti, rfl, rfl⟩, rfl, fun e d v h => (by subst e; have h' : (none : Option (List D)).isSome = true ∧ _ := h; cases h'.1), fun d v h => (show _ ∧ d = .ptr 900 1 0 ∧ _ from h).2.1, rfl⟩ 3 _ _ hrep
  have e : vs.toArray.size = vs.length := by simp
  rw [e]
  refine wpIn_mono hw ?_
  rintro e a' w' ⟨s', k1, k2, g, d, R, m1, m2, k3⟩
  have key : LeavesInM Fence.wide 3 P fn a'.tmps (FCPost w S (vs.getD 0 undef) Fs.flatten res outs) a'.defers .returning w' := by
    obtain ⟨_, _, ρ, S', Φ, r, hsl⟩ := id k1
    rw [k1.1]
    refine leaves_marksE s'.dk w' r.dkn.1 r.dk (fun w'' e1 e2 e3 e4 e5 => ?_)
    have k1' := rep_undk k1 e1 e2 e3 e4 e5
    obtain ⟨v, q1, q2⟩ := rep_ld (t := t) (ty := ty) (g := g) (d := d) (R := R) k1' (by rw [show tiOf _ = Ti from hti]; exact m1) m2 ht
    have hsz : ∀ x, x < fn.ntmps → x < a'.tmps.size := fun x hx => by
      have := k1.2.1
      rw [this]
      exact hx
    have hk : Fin [t, u] res outs ((⟨s'.sl, s'.hp, []⟩ : St).put t d) := by
      obtain ⟨own, fro, g1, g2, _, g4⟩ := k3
      refine ⟨own, fro, g1, g2, rfl, ?_⟩
      rcases outs with _ | cs
      · exact g4.loc (σ := (⟨s'.sl, s'.hp, []⟩ : St).put t d) (fun _ _ => rfl)
      · exact g4.loc (σ := (⟨s'.sl, s'.hp, []⟩ : St).put t d) (fun _ _ => rfl)
    refine ⟨.tuple #[v, a'.tmps.getD u undef], run_resultsCT hrs q1, ?_⟩
    have := fin_post q2 hk (vs.getD 0 undef) (fun hs => ⟨hs, rfl, rfl⟩)
    have e : resV [t, u] (a'.tmps.setIfInBounds t v) = .tuple #[v, a'.tmps.getD u undef] := by
      show Value.tuple #[(a'.tmps.setIfInBounds t v).getD t undef, (a'.tmps.setIfInBounds t v).getD u undef] = _
      rw [getD_set (hsz t ht), if_pos rfl, getD_set (hsz t ht), if_neg (fun e => hne e.symm)]
    simp only [e] at this
    exact this
  rcases k2 with rfl | rfl
  · exact key
  · exact key
section
variable {P : Program} {Ti : Nat → TI} {G : Nat → Option D} {f : Nat} {fn : Func} {c : Code} {ins : List D} {res : D} {s0 s s2 : St}
theorem fict_ {t ty u : Nat} (nt : Nat) (hti : tiOf P = Ti) (gp : ∀ g cs, G g = some cs → cs.pf0 = true) (hf : P.funcs[f]? = some fn)
    (h : ∀ C, Env C Ti G nt → C.P.follows .mixedOrders = true → C.P = P → (∀ d v, ¬ C.keep d v) → C.rnd = none → VC C c s0 (RetCT Ti t ty u res none))
    (hb : fn.body = some c := by exact rfl) (hrs : fn.results = #[.cell t ty, .tmp u] := by exact rfl) (ht : (Nat.blt t fn.ntmps && !(Nat.beq t u)) = true := by exact rfl) (hn : Nat.ble ins.length fn.ntmps = true := by exact rfl) (had : D.adL ins = true := by simp [D.adL, D.ad1, D.fr0, D.pf1, D.pf0, D.pf]) (hi : inSt ins = s0 := by simp only [inSt, adoptT, adoptL, adopt1, numb, St.lay1, St.nxt, St.lay, St.sh, St.ob, look, Z, U]; rfl) (hnt : fn.ntmps = nt := by exact rfl) (hpm : P.follows .mixedOrders = true := by kernel_rfl) : FC P G f ins res none := by
  simp only [Bool.and_eq_true, Nat.blt_eq, Bool.not_eq_true'] at ht
  subst hi
  exact fc_ofct hti gp hf hb hrs ht.1 (fun e => by have := ht.2; rw [e] at this; simp at this) (Nat.le_of_ble_eq_true hn) had trivial fun C hC => h C (hnt ▸ hC.env) (by rw [hC.p]; exact hpm) hC.p (hC.recv rfl) hC.rn
theorem retct_ {t ty u : Nat} {e : Exit} {own fro R : List Nat} {g : Prop} {d d' : D} (he : e = .normal ∨ e = .ret := by first | exact .inl rfl | exact .inr rfl) (el : ldD Ti s.ob ty (s.slot t) = some (g, d, R) := by exact rfl) (hd : d = d' := by exact nr_) (hg : g := by exact sg_) (hs : s.put t d' = s2 := by exact nr_) (h : Mat s2 (resD [t, u] s2) res own fro := by exact mr_) (hnd : own.Nodup := by decide) (hdis : ∀ o ∈ own, o ∉ fro := by decide) : RetCT Ti t ty u res none e s := ⟨he, g, d, R, el, hg, by rw [hd, hs]; exact fin0 rfl h hnd hdis⟩
end
/-- A packet's arguments: structures, rows of attributes lent. -/
theorem ma2_ {s : St} {d d2 : D} {own fro : List Nat} (h : Mat s d d2 own fro := by (repeat' (first | exact .tnil | apply mcf rfl | exact mat_eq rfl rfl | apply Mat.agg | exact mat_n2 | exact mat_r2 rfl rfl rfl rfl | exact mat_s2 rfl rfl rfl rfl | (apply mat_slf rfl rfl rfl rfl <;> first | rfl | exact atR_len _ | exact atR_fr _ | exact atS_fr _ | omega) | apply mat_i | apply mat_bl | apply mat_u8 | apply mat_st | apply mat_ab | apply mat_rbe | apply mat_nrb | (apply mat_r0 rfl rfl rfl <;> first | rfl | (simp <;> fail) | (simp; omega) | omega) | apply mat_rb rfl rfl rfl | apply mc)) <;> first | rfl | assumption | (simp <;> fail) | omega | (simp [List.take_of_length_le] <;> fail)) : Mat s d d2 own fro := h
end Go.Proofs.YtocfhkmdkdjinaaDoor

/- Packets of attributes, in plain Lean: their bytes, and back. -/
namespace Go.Proofs.YtocfhkmdkdjinaaDoor
open Go Go.RowKit
set_option linter.unusedVariables false
set_option linter.unusedSimpArgs false

/-- An attribute's bytes; those of all. -/
def enA (a : Int × List UInt8) : List UInt8 := b8 a.1 :: b8 ((a.2.length : Int) + 2) :: a.2
def bodyA (L : List (Int × List UInt8)) : List UInt8 := (L.map enA).flatten
def okA (a : Int × List UInt8) : Bool := decide (1 ≤ a.1) && decide (a.1 ≤ 255) && decide (a.2.length ≤ 253)
def isCd (c : Int) : Bool := decide (c = 1) || decide (c = 2) || decide (c = 3) || decide (c = 11)
/-- Can a packet be written? Its bytes. -/
def wrO (c i : Int) (L : List (Int × List UInt8)) : Bool := isCd c && decide (0 ≤ i) && decide (i ≤ 255) && L.all okA && decide (20 + (bodyA L).length ≤ 4096)
def wrS (c i : Int) (au : List UInt8) (L : List (Int × List UInt8)) : List UInt8 := [b8 c, b8 i, b8 (((20 + (bodyA L).length : Nat) : Int) / 256), b8 ((20 + (bodyA L).length : Nat) : Int)] ++ (au ++ bodyA L)
theorem bodyA_nil : bodyA [] = [] := rfl
theorem bodyA_cons (a : Int × List UInt8) (L : List (Int × List UInt8)) : bodyA (a :: L) = enA a ++ bodyA L := rfl
theorem bodyA_app (L M : List (Int × List UInt8)) : bodyA (L ++ M) = bodyA L ++ bodyA M := by unfold bodyA; rw [List.map_append, List.flatten_append]
theorem bodyA_one (a : Int × List UInt8) : bodyA [a] = enA a := by unfold bodyA; simp
theorem enA_len (a : Int × List UInt8) : (enA a).length = a.2.length + 2 := rfl
theorem bodyA_take_le (L : List (Int × List UInt8)) (k : Nat) : (bodyA (L.take k)).length ≤ (bodyA L).length := by
  have h := bodyA_app (L.take k) (L.drop k)
  rw [List.take_append_drop] at h
  rw [h, List.length_append]
  omega
theorem bodyA_succ (L : List (Int × List UInt8)) {k : Nat} (h : k < L.length) : bodyA (L.take (k + 1)) = bodyA (L.take k) ++ enA (L.getD k (0, [])) := by
  have e : L.getD k (0, []) = L[k] := by rw [List.getD_eq_getElem?_getD, List.getElem?_eq_getElem h]; rfl
  rw [e, List.take_add_one, List.getElem?_eq_getElem h, Option.toList_some, bodyA_app, bodyA_one]
theorem wrS_len (c i : Int) (au : List UInt8) (L : List (Int × List UInt8)) : (wrS c i au L).length = 4 + (au.length + (bodyA L).length) := by
  unfold wrS
  simp
  omega

/-- Does an attribute begin here? -/
def prC (l : List UInt8) : Bool := decide (2 ≤ l.length) && decide (gb l 0 ≠ 0) && decide (2 ≤ (gb l 1).toNat) && decide ((gb l 1).toNat ≤ l.length)
def prA (l : List UInt8) : Int × List UInt8 := ((gb l 0).toNat, (l.take (gb l 1).toNat).drop 2)
def prsF : Nat → List UInt8 → Option (List (Int × List UInt8))
  | 0, l => if l.length = 0 then some [] else none
  | n + 1, l => if l.length = 0 then some [] else if prC l = true then (prsF n (l.drop (gb l 1).toNat)).map (prA l :: ·) else none
/-- The attributes that bytes are. -/
def prs (l : List UInt8) : Option (List (Int × List UInt8)) := prsF l.length l
theorem prC_of {l : List UInt8} (h : prC l = true) : 2 ≤ l.length ∧ gb l 0 ≠ 0 ∧ 2 ≤ (gb l 1).toNat ∧ (gb l 1).toNat ≤ l.length := by
  unfold prC at h
  simp only [Bool.and_eq_true, decide_eq_true_eq] at h
  exact ⟨h.1.1.1, h.1.1.2, h.1.2, h.2⟩
theorem prsF_same : ∀ (n m : Nat) (l : List UInt8), l.length ≤ n → l.length ≤ m → prsF n l = prsF m l
  | 0, m, l, hn, hm => by
    have h0 : l.length = 0 := by omega
    cases m <;> simp [prsF, h0]
  | n + 1, 0, l, hn, hm => by
    have h0 : l.length = 0 := by omega
    simp [prsF, h0]
  | n + 1, m + 1, l, hn, hm => by
    unfold prsF
    split
    · rfl
    · split
      · rename_i h1 h2
        obtain ⟨q1, q2, q3, q4⟩ := prC_of h2
        rw [prsF_same n m (l.drop (gb l 1).toNat) (by rw [List.length_drop]; omega) (by rw [List.length_drop]; omega)]
      · rfl
theorem prs_nil {l : List UInt8} (h : l.length = 0) : prs l = some [] := by unfold prs; rw [h]; unfold prsF; rw [if_pos h]
theorem prs_none {l : List UInt8} (h : l.length ≠ 0) (hc : prC l = false) : prs l = none := by
  unfold prs
  obtain ⟨n, hn⟩ : ∃ n, l.length = n + 1 := ⟨l.length - 1, by omega⟩
  rw [hn]
  unfold prsF
  rw [if_neg h, if_neg (by rw [hc]; simp)]
theorem prs_some {l : List UInt8} (hc : prC l = true) : prs l = (prs (l.drop (gb l 1).toNat)).map (prA l :: ·) := by
  obtain ⟨q1, q2, q3, q4⟩ := prC_of hc
  unfold prs
  obtain ⟨n, hn⟩ : ∃ n, l.length = n + 1 := ⟨l.length - 1, by omega⟩
  rw [hn]
  rw [prsF, if_neg (by omega), if_pos hc, prsF_same n (l.drop (gb l 1).toNat).length _ (by rw [List.length_drop]; omega) (Nat.le_refl _)]
theorem prs_enA (a : Int × List UInt8) (r : List UInt8) (h : okA a = true) : prs (enA a ++ r) = (prs r).map (a :: ·) := by
  unfold okA at h
  simp only [Bool.and_eq_true, decide_eq_true_eq] at h
  obtain ⟨⟨h1, h2⟩, h3⟩ := h
  have e0 : gb (enA a ++ r) 0 = b8 a.1 := rfl
  have e1 : gb (enA a ++ r) 1 = b8 ((a.2.length : Int) + 2) := rfl
  have t0 := b8_toNat (x := a.1) (by omega) (by omega)
  have t1 := b8_toNat (x := (a.2.length : Int) + 2) (by omega) (by omega)
  have t1' : (b8 ((a.2.length : Int) + 2)).toNat = a.2.length + 2 := by omega
  have hl : (enA a ++ r).length = a.2.length + 2 + r.length := by rw [List.length_append, enA_len]
  have hc : prC (enA a ++ r) = true := by
    unfold prC
    rw [e0, e1, t1', hl]
    have : b8 a.1 ≠ 0 := fun e => by rw [e] at t0; simp at t0; omega
    simp [this]
    omega
  have hd : (enA a ++ r).drop (a.2.length + 2) = r := by rw [← enA_len a]; exact List.drop_left
  have hp : prA (enA a ++ r) = a := by
    unfold prA
    rw [e0, e1, t1', t0, ← enA_len a, List.take_left]
    show (a.1, a.2) = a
    rfl
  rw [prs_some hc, e1, t1', hd, hp]
theorem prs_body : ∀ (L : List (Int × List UInt8)), L.all okA = true → prs (bodyA L) = some L
  | [], _ => prs_nil rfl
  | a :: L, h => by
    rw [List.all_cons, Bool.and_eq_true] at h
    rw [bodyA_cons, prs_enA a _ h.1, prs_body L h.2]
    rfl
theorem prA_back {l : List UInt8} (h : prC l = true) : okA (prA l) = true ∧ enA (prA l) = l.take (gb l 1).toNat := by
  obtain ⟨q1, q2, q3, q4⟩ := prC_of h
  have h0 := UInt8.toNat_lt (gb l 0)
  have h1 := UInt8.toNat_lt (gb l 1)
  have hz : (gb l 0).toNat ≠ 0 := fun e => q2 (UInt8.toNat_inj.1 (by simpa using e))
  have hl : ((l.take (gb l 1).toNat).drop 2).length = (gb l 1).toNat - 2 := by rw [List.length_drop, List.length_take]; omega
  constructor
  · unfold okA prA
    simp only [hl, Bool.and_eq_true, decide_eq_true_eq]
    omega
  · unfold enA prA
    simp only [hl]
    have e1 : b8 (((gb l 1).toNat - 2 : Nat) + 2 : Int) = gb l 1 := by
      rw [show (((gb l 1).toNat - 2 : Nat) + 2 : Int) = ((gb l 1).toNat : Int) by omega]
      exact b8_nat _
    rw [e1, b8_nat]
    rcases l with _ | ⟨x, _ | ⟨y, r⟩⟩
    · simp at q1
    · simp at q1
    · show x :: y :: ((x :: y :: r).take y.toNat).drop 2 = (x :: y :: r).take y.toNat
      have q3' : 2 ≤ y.toNat := q3
      obtain ⟨k, hk⟩ : ∃ k, y.toNat = k + 2 := ⟨y.toNat - 2, by omega⟩
      rw [hk]
      simp
theorem prs_back : ∀ (n : Nat) (l : List UInt8) (L : List (Int × List UInt8)), l.length ≤ n → prs l = some L → L.all okA = true ∧ bodyA L = l
  | 0, l, L, hn, h => by
    have h0 : l.length = 0 := by omega
    rw [prs_nil h0] at h
    injection h with h
    subst h
    exact ⟨rfl, (List.eq_nil_of_length_eq_zero h0).symm⟩
  | n + 1, l, L, hn, h => by
    by_cases h0 : l.length = 0
    · rw [prs_nil h0] at h
      injection h with h
      subst h
      exact ⟨rfl, (List.eq_nil_of_length_eq_zero h0).symm⟩
    · by_cases hc : prC l = true
      · rw [prs_some hc] at h
        obtain ⟨q1, q2, q3, q4⟩ := prC_of hc
        rcases hr : prs (l.drop (gb l 1).toNat) with _ | M
        · rw [hr] at h; cases h
        · rw [hr] at h
          injection h with h
          subst h
          obtain ⟨k1, k2⟩ := prs_back n _ M (by rw [List.length_drop]; omega) hr
          obtain ⟨b1, b2⟩ := prA_back hc
          refine ⟨by rw [List.all_cons, b1, k1]; rfl, ?_⟩
          rw [bodyA_cons, b2, k2]
          exact List.take_append_drop _ _
      · rw [prs_none h0 (by simpa using hc)] at h
        cases h
/-- What bytes read as: code, number, the sixteen bytes, attributes. -/
def rdO (l : List UInt8) : Bool := decide (20 ≤ l.length) && decide (l.length ≤ 4096) && isCd (gb l 0).toNat && decide ((gb l 2).toNat * 256 + (gb l 3).toNat = l.length)
def rdS (l : List UInt8) : Option (List (Int × List UInt8)) := if rdO l = true then prs (l.drop 20) else none
theorem isCd_lt {c : Int} (h : isCd c = true) : 0 ≤ c ∧ c < 256 := by
  unfold isCd at h
  simp only [Bool.or_eq_true, decide_eq_true_eq] at h
  omega
theorem rd_wr (c i : Int) (au : List UInt8) (L : List (Int × List UInt8)) (ha : au.length = 16) (h : wrO c i L = true) :
    rdS (wrS c i au L) = some L ∧ ((gb (wrS c i au L) 0).toNat : Int) = c ∧ ((gb (wrS c i au L) 1).toNat : Int) = i ∧ (wrS c i au L).drop 4 = au ++ bodyA L ∧ ((wrS c i au L).take 20).drop 4 = au ∧ (wrS c i au L).drop 20 = bodyA L ∧ (wrS c i au L).length = 20 + (bodyA L).length := by
  unfold wrO at h
  simp only [Bool.and_eq_true, decide_eq_true_eq] at h
  obtain ⟨⟨⟨⟨h1, h2⟩, h3⟩, h4⟩, h5⟩ := h
  have hl : (wrS c i au L).length = 20 + (bodyA L).length := by rw [wrS_len, ha]; omega
  have e0 : gb (wrS c i au L) 0 = b8 c := rfl
  have e1 : gb (wrS c i au L) 1 = b8 i := rfl
  have e2 : gb (wrS c i au L) 2 = b8 (((20 + (bodyA L).length : Nat) : Int) / 256) := rfl
  have e3 : gb (wrS c i au L) 3 = b8 ((20 + (bodyA L).length : Nat) : Int) := rfl
  have hc := isCd_lt h1
  have t0 := b8_toNat hc.1 (Int.le_of_lt_add_one hc.2)
  have t1 := b8_toNat h2 (show i ≤ 255 by omega)
  have t2 := b8_toNat (x := ((20 + (bodyA L).length : Nat) : Int) / 256) (by omega) (by omega)
  have t3 : ((b8 ((20 + (bodyA L).length : Nat) : Int)).toNat : Int) = ((20 + (bodyA L).length : Nat) : Int) % 256 := by
    unfold b8
    simp
    omega
  have d4 : (wrS c i au L).drop 4 = au ++ bodyA L := rfl
  have d20 : (wrS c i au L).drop 20 = bodyA L := by
    rw [show 20 = 4 + 16 from rfl, ← List.drop_drop, d4, ← ha, List.drop_left]
  refine ⟨?_, by rw [e0, t0], by rw [e1, t1], d4, ?_, d20, hl⟩
  · unfold rdS rdO
    rw [e0, e2, e3, t0, hl, h1, d20, prs_body L h4]
    rw [if_pos]
    simp only [Bool.and_eq_true, decide_eq_true_eq, and_true]
    refine ⟨⟨by omega, by omega⟩, by omega⟩
  · rw [List.drop_take, d4, show 20 - 4 = 16 from rfl, ← ha, List.take_left]
/-- What is read can be written again. -/
theorem wr_rd (l : List UInt8) (L : List (Int × List UInt8)) (h : rdS l = some L) : wrO (gb l 0).toNat (gb l 1).toNat L = true ∧ wrS (gb l 0).toNat (gb l 1).toNat ((l.take 20).drop 4) L = l ∧ rdO l = true ∧ L.all okA = true ∧ bodyA L = l.drop 20 := by
  unfold rdS at h
  split at h
  · rename_i ho
    obtain ⟨k1, k2⟩ := prs_back _ _ L (Nat.le_refl _) h
    have ho' := ho
    unfold rdO at ho'
    simp only [Bool.and_eq_true, decide_eq_true_eq] at ho'
    obtain ⟨⟨⟨o1, o2⟩, o3⟩, o4⟩ := ho'
    have hb : 20 + (bodyA L).length = l.length := by rw [k2, List.length_drop]; omega
    have g1 := UInt8.toNat_lt (gb l 1)
    have g2 := UInt8.toNat_lt (gb l 2)
    have g3 := UInt8.toNat_lt (gb l 3)
    refine ⟨?_, ?_, ho, k1, k2⟩
    · unfold wrO
      rw [o3, k1, hb]
      simp
      omega
    · unfold wrS
      rw [hb, k2]
      have c0 : b8 ((gb l 0).toNat : Int) = gb l 0 := b8_nat _
      have c1 : b8 ((gb l 1).toNat : Int) = gb l 1 := b8_nat _
      have c2 : b8 ((l.length : Int) / 256) = gb l 2 := by
        rw [show (l.length : Int) / 256 = ((gb l 2).toNat : Int) by omega]
        exact b8_nat _
      have c3 : b8 (l.length : Int) = gb l 3 := by
        unfold b8; apply UInt8.toNat_inj.1
        simp
        omega
      rw [c0, c1, c2, c3]
      refine gb_ext (by simp; omega) fun j hj => ?_
      have hjl : j < l.length := by simp at hj; omega
      unfold gb
      by_cases h4 : j < 4
      · rcases (show j = 0 ∨ j = 1 ∨ j = 2 ∨ j = 3 by omega) with rfl | rfl | rfl | rfl <;> rfl
      · rw [List.getD_eq_getElem?_getD, List.getD_eq_getElem?_getD, List.getElem?_append_right (by simp; omega)]
        simp only [List.length_cons, List.length_nil]
        by_cases h20 : j < 20
        · rw [List.getElem?_append_left (by simp; omega), List.getElem?_drop, List.getElem?_take, if_pos (by omega)]
          congr 2
          omega
        · rw [List.getElem?_append_right (by simp; omega), List.getElem?_drop]
          congr 2
          simp
          omega
  · cases h
end Go.Proofs.YtocfhkmdkdjinaaDoor

/- radius: isCode, within, Write. Printed by wp.py. -/
namespace Go.Proofs.YtocfhkmdkdjinaaDoor
open Go Go.RowKit
set_option linter.unusedVariables false
set_option linter.unusedSimpArgs false
set_option maxRecDepth 100000
set_option maxHeartbeats 4000000
attribute [local irreducible] inR VC RG VCn sq inS lq nq jq Wk
theorem decL (l : List UInt8) : decide (l = l) = true := decide_eq_true rfl
theorem decI (n : Int) : decide (n = n) = true := decide_eq_true rfl
def wrV (c i : Int) (au : List UInt8) (L : List (Int × List UInt8)) : List UInt8 × Int := if wrO c i L = true then (wrS c i au L, 0) else ([], 2)
theorem wrV_yes {c i : Int} {au : List UInt8} {L : List (Int × List UInt8)} (h : wrO c i L = true) : wrV c i au L = (wrS c i au L, 0) := by unfold wrV; rw [if_pos h]
theorem wrV_no {c i : Int} {au : List UInt8} {L : List (Int × List UInt8)} (h : wrO c i L = false) : wrV c i au L = ([], 2) := by unfold wrV; rw [if_neg (by rw [h]; simp)]
theorem wrO_iff (c i : Int) (L : List (Int × List UInt8)) : wrO c i L = true ↔ isCd c = true ∧ 0 ≤ i ∧ i ≤ 255 ∧ L.all okA = true ∧ 20 + (bodyA L).length ≤ 4096 := by
  unfold wrO
  simp only [Bool.and_eq_true, decide_eq_true_eq, and_assoc]
theorem okA_iff (a : Int × List UInt8) : okA a = true ↔ 1 ≤ a.1 ∧ a.1 ≤ 255 ∧ a.2.length ≤ 253 := by
  unfold okA
  simp only [Bool.and_eq_true, decide_eq_true_eq, and_assoc]
theorem wrO_not {c i : Int} {L : List (Int × List UInt8)} (h : ¬ wrO c i L = true) : wrO c i L = false := by simpa using h
theorem all_take_succ {p : Int × List UInt8 → Bool} (L : List (Int × List UInt8)) {k : Nat} (h : k < L.length) (h1 : (L.take k).all p = true) (h2 : p (L.getD k (0, [])) = true) : (L.take (k + 1)).all p = true := by
  rw [getD_at L h] at h2
  rw [List.take_add_one, List.getElem?_eq_getElem h, Option.toList_some, List.all_append, h1]
  simp [h2]
theorem all_at {p : Int × List UInt8 → Bool} (L : List (Int × List UInt8)) {k : Nat} (h : k < L.length) (h1 : L.all p = true) : p (L.getD k (0, [])) = true := by
  rw [getD_at L h]
  exact List.all_eq_true.1 h1 _ (List.getElem_mem h)
theorem set23 (x y z u v w : UInt8) (l : List UInt8) : ((x :: y :: z :: u :: l).set 2 v).set 3 w = x :: y :: v :: w :: l := rfl
theorem bodyA_ge : ∀ L : List (Int × List UInt8), 2 * L.length ≤ (bodyA L).length
  | [] => by simp [bodyA_nil]
  | a :: L => by
    have := bodyA_ge L
    rw [bodyA_cons, List.length_append, enA_len, List.length_cons]
    omega
theorem wr_step (H : List UInt8) (m : Nat) (hH : H.length = m) (x y : UInt8) (v : List UInt8) : List.take (m + 2) (List.take m H ++ [x, y]) ++ v = H ++ (x :: y :: v) := by
  rw [List.take_of_length_le (l := H) (by omega), List.take_of_length_le (by simp; omega)]
  simp
theorem hd4 (x y : UInt8) (l : List UInt8) (L : List (Int × List UInt8)) : List.take 4 [x, y, 0, 0] ++ l = x :: y :: 0 :: 0 :: (l ++ bodyA (L.take 0)) := by rw [List.take_zero, bodyA_nil, List.append_nil]; rfl
theorem wrS_def (c i : Int) (au : List UInt8) (L : List (Int × List UInt8)) : wrS c i au L = b8 c :: b8 i :: b8 (((20 + (bodyA L).length : Nat) : Int) / 256) :: b8 ((20 + (bodyA L).length : Nat) : Int) :: (au ++ bodyA L) := rfl
attribute [local simp] bodyA_nil
attribute [local irreducible] bodyA wrS wrO

namespace UisCode_fc
theorem U : type_of% (@drop_rep UInt8) ∧ type_of% (@drop_rep D) ∧ type_of% (@List.take_zero UInt8) ∧ type_of% (@List.take_zero D) ∧ type_of% @q16_take ∧ type_of% @q16_len ∧ type_of% @q16_fold ∧ type_of% @q16_map ∧ type_of% @decL ∧ type_of% @decI := ⟨(@drop_rep UInt8), (@drop_rep D), (@List.take_zero UInt8), (@List.take_zero D), @q16_take, @q16_len, @q16_fold, @q16_map, @decL, @decI⟩
end UisCode_fc
open UisCode_fc
theorem isCode_fc (c : Int) : FC Tryd.prog GE 82 [.int .i64 c] (.bool (isCd c)) none := by
  refine fi_ 9 [2] ti_eq gpE Tryd.func82 (fun C hE hm hP hrc hrn => ?_)
  repeat' (first | refine A1_ ?_ | refine C_ hE (fun hc => ?_) (fun hc => ?_) <;> (try (exfalso; omega)))
  · obtain rfl : c = 1 := hc
    exact ret_
  · obtain rfl : c = 2 := hc
    exact ret_
  · obtain rfl : c = 3 := hc
    exact ret_
  · obtain rfl : c = 11 := hc
    exact ret_
  · rename_i h1 h2 h3
    have hn : isCd c = false := by unfold isCd; rw [decide_eq_false h1, decide_eq_false h2, decide_eq_false h3, decide_eq_false hc]; rfl
    rw [hn]
    exact ret_

theorem within_fc (n lo hi : Int) : FC Tryd.prog GE 83 [.int .i64 n, .int .i64 lo, .int .i64 hi] (.bool (decide (lo ≤ n) && decide (n ≤ hi))) none := by
  refine fi_ 15 [6] ti_eq gpE Tryd.func83 (fun C hE hm hP hrc hrn => ?_)
  refine A_ ?_
  exact ret_

theorem write_fc (c i : Int) (au : List UInt8) (L : List (Int × List UInt8)) : FC Tryd.prog GE 31 [.agg [.int .i64 c, .int .i64 i, .u8 (gb au 0), .u8 (gb au 1), .u8 (gb au 2), .u8 (gb au 3), .u8 (gb au 4), .u8 (gb au 5), .u8 (gb au 6), .u8 (gb au 7), .u8 (gb au 8), .u8 (gb au 9), .u8 (gb au 10), .u8 (gb au 11), .u8 (gb au 12), .u8 (gb au 13), .u8 (gb au 14), .u8 (gb au 15), .rof 2 L.length (fR L)]] (.tup [.ownb (wrV c i (q16 au) L).1, .int .i64 (wrV c i (q16 au) L).2]) none := by
  refine fi_ 81 [2, 3] ti_eq gpE Tryd.func31 (fun C hE hm hP hrc hrn => ?_)
  refine A_ ?_
  first | refine O_ ?_ | refine OD_ hm ?_
  refine G_ 200 hE ?_
  refine rc_ hE hP (isCode_fc c) Tryd.func82 ?_
  refine G_ 2 hE ?_
  cases hcd : isCd c
  · refine G_ 2 hE ?_
    refine GI_ (.bool true) hE (rfl) ?_
    refine G_ 200 hE ?_
    first | refine rz ?_ | refine ZD_ ?_
    rw [wrV_no (wrO_not fun h => by rw [((wrO_iff c i L).1 h).1] at hcd; cases hcd)]
    refine A_ ?_
    exact ret_
  · refine GT_ hE (rfl) ?_
    refine GT_ hE (rfl) ?_
    refine rct_ hE hP (within_fc i 0 255) Tryd.func83 (rfl) ?_
    refine G_ 200 hE ?_
    first | refine rz ?_ | refine ZD_ ?_
    refine A_ ?_
    refine C_ hE (fun hc => ?_) (fun hc => ?_) <;> (try (exfalso; omega))
    · rw [wrV_no (wrO_not fun h => by have := (wrO_iff c i L).1 h; omega)]
      refine A_ ?_
      exact ret_
    · refine A_ ?_
      rw [hd4 _ _ _ L]
      refine vl (fun k : Nat => ⟨[(4, .sl 23 (2 + 2 * k) 0 (20 + (bodyA (L.take k)).length)), (28, .rof 2 L.length (fR L)), (29, .int .i64 L.length), (30, .int .i64 k)], [(23, ⟨⟨2 + 2 * k, 1, 20 + (bodyA (L.take k)).length⟩, some (.bytes (b8 c :: b8 i :: 0 :: 0 :: (q16 au ++ bodyA (L.take k))))⟩)], []⟩) (fun k => k ≤ L.length ∧ (L.take k).all okA = true ∧ 20 + (bodyA (L.take k)).length ≤ 4096) (fun k => L.length - k) 0 ?_ ⟨Nat.zero_le _, rfl, by simp⟩ ?_
      · exact wk_ hrc
      rintro k ⟨hk, hok, hlen⟩
      have hkb := bodyA_ge (L.take k)
      rw [List.length_take] at hkb
      by_cases hkl : k < L.length
      · have hs := bodyA_succ L hkl
        have hle := bodyA_take_le L (k + 1)
        have hall := fun h => all_take_succ (p := okA) L hkl hok h
        have hat := fun h => all_at (p := okA) L hkl h
        obtain ⟨a, ha⟩ : ∃ a, a = L.getD k (0, []) := ⟨_, rfl⟩
        have hf0 : fR L k 0 = .int .i64 a.1 := by rw [ha]; rfl
        have hf1 : fR L k 1 = .rob a.2 := by rw [ha]; rfl
        rw [← ha] at hs hall hat
        rw [hs, List.length_append, enA_len] at hle
        refine A_ ?_
        refine C_ hE (fun hc2 => ?_) (fun hc2 => ?_) <;> (try (exfalso; omega))
        refine A_ ?_
        have hm2 : List.map (fun i => fR L k i) (List.range 2) = [.int .i64 a.1, .rob a.2] := by
          show [fR L k 0, fR L k 1] = _
          rw [hf0, hf1]
        rw [hm2, show List.drop [D.int .i64 a.1, D.rob a.2].length [D.int .i64 0, D.nilS] = [] from rfl]
        first | refine O_ ?_ | refine OD_ hm ?_
        refine G_ 200 hE ?_
        refine rc_ hE hP (within_fc a.1 1 255) Tryd.func83 ?_
        refine G_ 200 hE ?_
        first | refine rz ?_ | refine ZD_ ?_
        refine A_ ?_
        refine C_ hE (fun hc3 => ?_) (fun hc3 => ?_) <;> (try (exfalso; omega))
        · rw [wrV_no (wrO_not fun h => by
            obtain ⟨_, _, _, h4, h5⟩ := (wrO_iff c i L).1 h
            have := (okA_iff a).1 (hat h4)
            omega)]
          refine A_ ?_
          exact ret_
        · have hoka : okA a = true := (okA_iff a).2 (by omega)
          refine A_ ?_
          refine lq_n (k + 1) ?_ ?_ ?_
          · rw [hs]
            refine wk_of rfl ?_ ?_ hrc <;> (repeat' apply And.intro) <;> first | exact trivial | rfl | (intro o ho; simp [D.nm, nmL, ctNm, nmL_ownb, nmL_rob, nmL_str, nmL_cz] at ho <;> fail) | (intro o ho; simp [D.nm, nmL, ctNm, nmL_ownb, nmL_rob, nmL_str, nmL_cz] at ho ⊢ <;> omega) | (simp only [Z, U, Int.cast_ofNat_Int, UInt8.reduceToNat, UInt32.reduceToNat, Nat.reduceAdd, Nat.reduceMul, Nat.reduceSub, Nat.reduceLeDiff, Int.reduceToNat, Int.reducePow, Nat.reducePow] <;> fail) | (simp [St.ob, St.slot, look] <;> fail) | (simp [St.ob, St.slot, look]; omega) | simp [St.ob, St.slot, look] | skip
            · exact ⟨by omega, by rw [enA_len]; omega⟩
            · refine ⟨⟨by omega, by rw [enA_len]; omega⟩, ?_⟩
              rw [wr_step _ _ (by simp [q16_len]; omega)]
              simp [enA]
          · exact ⟨by omega, hall hoka, by rw [hs, List.length_append, enA_len]; omega⟩
          · omega
      · obtain rfl : k = L.length := by omega
        rw [List.take_length] at hok hlen ⊢
        have hw : wrO c i L = true := (wrO_iff c i L).2 ⟨hcd, hc.1, hc.2, hok, hlen⟩
        rw [wrV_yes hw, wrS_def]
        generalize bodyA L = B at *
        repeat' (first | refine A1_ ?_ | refine C_ hE (fun hc => ?_) (fun hc => ?_) <;> (try (exfalso; omega)))
        exact ret_ (h := by (first | exact Mat.tnil | apply mat1 rfl | apply mat2 rfl rfl | apply mat3 rfl rfl rfl) <;> (repeat' (first | exact .tnil | exact mat_eq rfl rfl | apply mat_i | apply mat_bl | apply mat_u8 | apply mat_u32 | apply mat_st | apply mat_ab | apply mat_rbe | apply mat_nrb | apply mat_nob | exact mat_nos rfl rfl | exact mat_rf0 rfl | exact mat_trob | (apply mat_rf rfl rfl rfl) | refine mat_slf (e := 1) rfl rfl rfl rfl ?_ ?_ ?_ (by first | exact fr0_rob _ | exact fr0_str _ | exact fr0_str _) | (apply mat_sls rfl rfl rfl rfl rfl rfl) | exact mat_pf rfl rfl rfl rfl rfl | (apply mat_s0 rfl rfl rfl; (· first | rfl | (simp <;> fail) | (simp; omega) | omega)) | (apply mat_r0 rfl rfl rfl; (· first | rfl | (simp <;> fail) | (simp; omega) | omega)) | apply mat_sl rfl rfl rfl | apply mat_rb rfl rfl rfl | apply mat_p rfl rfl rfl rfl | apply mc)) <;> (first | rfl | assumption | (simp only [Z, U, Int.cast_ofNat_Int, UInt8.reduceToNat, UInt32.reduceToNat, Nat.reduceAdd, Nat.reduceMul, Nat.reduceSub, Nat.reduceLeDiff, Int.reduceToNat, Int.reducePow, Nat.reducePow] <;> fail) | (simp [q16_len, *] <;> fail) | (simp_all [q16_len] <;> fail) | (simp <;> fail) | omega | (simp [List.take_of_length_le] <;> fail) | ((exact List.take_of_length_le (by simp [q16_len]; omega)))))
end Go.Proofs.YtocfhkmdkdjinaaDoor

/- mac.Same of rows of the same length or not. Printed by wp.py. -/
namespace Go.Proofs.YtocfhkmdkdjinaaDoor
open Go Go.RowKit
set_option linter.unusedVariables false
set_option linter.unusedSimpArgs false
set_option maxRecDepth 100000
set_option maxHeartbeats 4000000
attribute [local irreducible] inR VC RG VCn sq inS lq nq jq Wk
/-- What the rows differ by, up to a place. -/
def orX (a b : List UInt8) : Nat → UInt8
  | 0 => 0
  | n + 1 => orX a b n ||| (gb a n ^^^ gb b n)
theorem orX_succ (a b : List UInt8) (n : Nat) : orX a b n ||| (gb a n ^^^ gb b n) = orX a b (n + 1) := rfl
theorem orX_iff (a b : List UInt8) : ∀ n, orX a b n = 0 ↔ ∀ i, i < n → gb a i = gb b i
  | 0 => by simp [orX]
  | n + 1 => by
    rw [orX, UInt8.or_eq_zero_iff, UInt8.xor_eq_zero_iff, orX_iff a b n]
    constructor
    · rintro ⟨h1, h2⟩ i hi
      rcases Nat.lt_or_ge i n with h | h
      · exact h1 i h
      · obtain rfl : i = n := by omega
        exact h2
    · exact fun h => ⟨fun i hi => h i (by omega), h n (by omega)⟩
theorem orX_eq (a b : List UInt8) (h : a.length = b.length) : decide (orX a b a.length = 0) = decide (a = b) := by
  refine decide_eq_decide.2 ((orX_iff a b _).trans ⟨fun h2 => ?_, fun h2 i _ => by rw [h2]⟩)
  apply List.ext_getElem h
  intro i h3 h4
  have := h2 i h3
  unfold gb at this
  rw [List.getD_eq_getElem?_getD, List.getD_eq_getElem?_getD, List.getElem?_eq_getElem h3, List.getElem?_eq_getElem h4] at this
  exact this
theorem bxx (v : Bool) : (!(v == v)) = false := by cases v <;> rfl
theorem sm_cut (l : List UInt8) : List.take l.length l = l := List.take_length
theorem orX_z (a b : List UInt8) : orX a b 0 = 0 := rfl
attribute [local simp] orX_z
attribute [local irreducible] orX

namespace Usame_fc
theorem U : type_of% (@drop_rep UInt8) ∧ type_of% (@drop_rep D) ∧ type_of% (@List.take_zero UInt8) ∧ type_of% (@List.take_zero D) := ⟨(@drop_rep UInt8), (@drop_rep D), (@List.take_zero UInt8), (@List.take_zero D)⟩
end Usame_fc
open Usame_fc
theorem same_fc (a b : List UInt8) (h : a.length ≤ 100000) : FC Tryd.prog GE 76 [.rob a, .rob b] (.bool (decide (a = b))) none := by
  refine fi_ 31 [4] ti_eq gpE Tryd.func76 (fun C hE hm hP hrc hrn => ?_)
  refine A_ ?_
  refine C_ hE (fun hc1 => ?_) (fun hc1 => ?_) <;> (try (exfalso; omega))
  · have hne : ¬ a = b := fun e => hc1 (by rw [e])
    rw [decide_eq_false hne]
    repeat' (first | refine A1_ ?_ | refine C_ hE (fun hc => ?_) (fun hc => ?_) <;> (try (exfalso; omega)))
    exact ret_
  · have hl : a.length = b.length := by omega
    refine A_ ?_
    refine vl (fun i : Nat => ⟨[(0, .rob a), (1, .rob b), (5, .u8 (orX a b i)), (13, .int .i64 a.length), (14, .int .i64 i)], [], []⟩) (fun i => i ≤ a.length) (fun i => a.length - i) 0 ?_ (Nat.zero_le _) (fun i hi => ?_)
    · exact wk_ hrc
    · repeat' (first | refine A1_ ?_ | refine C_ hE (fun hc => ?_) (fun hc => ?_) <;> (try (exfalso; omega)))
      · rw [orX_succ]
        refine lq_n (i + 1) ?_ (by omega) (by omega)
        exact wk_ hrc
      · obtain rfl : i = a.length := by omega
        rw [← orX_eq a b hl]
        repeat' (first | refine A1_ ?_ | refine C_ hE (fun hc => ?_) (fun hc => ?_) <;> (try (exfalso; omega)))
        exact ret_

end Go.Proofs.YtocfhkmdkdjinaaDoor

/- A slice's spare room is cut off ('s[:n:n]', n its length). Over any program. -/
namespace Go.Proofs.YtocfhkmdkdjinaaDoor
open Go Go.RowKit
set_option linter.unusedVariables false
set_option linter.unusedSimpArgs false

theorem run_clip {P : Program} {w : World} {t e : TypeId} (ht : (tiOf P t).ty = .slice e) {A : Option Addr} {n cap s : Nat} {k k' : IntKind} (hc : n ≤ cap) (hs : (sizeOf e).run P w = .ok s w) :
    (Instr.sliceAt t (.slice A n cap) none (some (.int k n)) (some (.int k' n))).run P w = .ok (.slice A n n) w := by
  have h1 := @run_sb P w
  simp [Instr.sliceAt, Instr.slice, Instr.sliceBounds, run_underlying (ti_slice ht), hs, run_sb, hc]
  cases A <;> simp [Addr.add]
section
variable {C : Ctx} {s : St} {ρ : Nat → Pl} {S : Nat → Prop} {Φ : Nat → List Nat} {w : World} {pos : String} {after : Array Edge} {gd : Option (Nat × Bool)} {ty : TypeId}
theorem eff_clip {dst : Option Tmp} (T : TypeId) (x y z : Operand) {e o g len : Nat} {k k' : IntKind} (hx : ev C s x = .sl o g 0 len) (hy : ev C s y = .int k len) (hz : ev C s z = .int k' len) (ht : (tiOf C.P T).ty = .slice e) (h0 : (tiOf C.P e).sz ≠ 0) (hg : g = (s.ob o).sh.gen) (hd : dstOk C.n dst) :
    Eff C ⟨dst, .slice T x none (some y) (some z), ty, pos, after, gd⟩ s (.sl o g 0 len) [] (opT x ++ opT y ++ opT z) [o] :=
  eff_pure hd fun σ hT hR a w ρ S Φ h1 h2 => by
    obtain ⟨q1, q2, q3⟩ := opT3 (C := C) hT
    have hgen : g = (σ.sh o).gen := by unfold St.sh; rw [hR o (by simp)]; exact hg
    have vx := ev_rv h1 h2 x
    rw [q1, hx] at vx
    have vy := ev_rv h1 h2 y
    rw [q2, hy] at vy
    have vz := ev_rv h1 h2 z
    rw [q3, hz] at vz
    obtain ⟨A, cap, e1, c1, c2, c3, c4⟩ := inv_sl vx hgen
    have e2 := inv_int vy
    have e3 := inv_int vz
    refine ⟨.slice A len len, ?_, .sl _ _ _ _ _ rfl (Nat.le_of_eq hgen) (fun _ => ⟨A, len, rfl, Nat.le_refl _, by omega, c3, ?_⟩)⟩
    · have := run_clip (P := C.P) (w := w) (A := A) (n := len) (cap := cap) (k := k) (k' := k') ht c1 (run_sz' h0)
      simp [execOp, e1, e2, e3, this]
    · rcases c4 with ⟨c4, c5⟩ | ⟨c4, c5⟩
      · exact .inl ⟨c4, c4⟩
      · refine .inr ⟨c4, ?_⟩
        have := Nat.mul_le_mul_right (σ.sh o).esz c1
        omega
variable {Ti : Nat → TI} {G : Nat → Option D} {n : Nat} {ops : Array Oper} {acc acc' : Acc} {rest rest' : List Oper} {s1 s2 : St} {K : Acc → St → Prop} {W : St → St → Prop}
theorem CL_ {t : Nat} {T e : TypeId} {x y z : Operand} {o g len : Nat} {k k' : IntKind} (hE : Env C Ti G n) (hk : RG C ops W (([], [o]) :: acc) rest s2 K)
    (hx : frc (evg G s x) = some (.sl o g 0 len) := by exact rfl) (hy : frc (evg G s y) = some (.int k (len : Int)) := by exact rfl) (hz : frc (evg G s z) = some (.int k' (len : Int)) := by exact rfl) (ht : (Ti T).ty = .slice e := by exact rfl) (h0 : (Ti e).sz ≠ 0 := by decide) (hg : g = (s.ob o).sh.gen := by exact rfl)
    (hc : gcO ops s gd = .yes := by exact rfl) (hb : dstB n (some t) = true := by exact rfl) (hs : s.put t (.sl o g 0 len) = s2 := by exact nr_) : RG C ops W acc (⟨some t, .slice T x none (some y) (some z), ty, pos, after, gd⟩ :: rest) s K := by
  subst hs
  intro M hM hW hend
  have hx' := frc_ok hx
  have hy' := frc_ok hy
  have hz' := frc_ok hz
  rw [← hE.g, ← ev_g] at hx' hy' hz'
  rw [← hE.ti] at ht h0
  refine hM.step _ _ _ _ _ [] [o] (effG_yes (o := ⟨some t, _, ty, pos, after, gd⟩) hc ((eff_clip T x y z hx' hy' hz' ht h0 hg (dstB_ok hE hb)).weak ?_ (fun _ h => h))) (hk M hM hW hend)
  intro v hv
  simp only [opsT, Op.operands, List.mem_flatMap] at hv ⊢
  simp only [List.mem_append] at hv
  rcases hv with (hv | hv) | hv
  · exact ⟨x, by simp, hv⟩
  · exact ⟨y, by simp, hv⟩
  · exact ⟨z, by simp, hv⟩
end
/-- A result with rows of attributes. -/
theorem ma3_ {s : St} {d d2 : D} {own fro : List Nat} (h : Mat s d d2 own fro := by (first | exact Mat.tnil | apply mat1 rfl | apply mat2 rfl rfl | apply mat3 rfl rfl rfl) <;> (repeat' (first | exact .tnil | apply mcf rfl | exact mat_eq rfl rfl | apply Mat.agg | exact mat_n2 | exact mat_r2 rfl rfl rfl rfl | exact mat_s2 rfl rfl rfl rfl | (apply mat_slf rfl rfl rfl rfl <;> first | rfl | exact atR_len _ | exact atO_len _ | exact atS_len _ | exact atR_fr _ | exact atO_fr _ | exact atS_fr _ | omega) | exact mat_nos rfl rfl | apply mat_i | apply mat_bl | apply mat_u8 | apply mat_st | apply mat_ab | apply mat_rbe | apply mat_nrb | apply mat_nob | (apply mat_s0 rfl rfl rfl <;> first | rfl | (simp <;> fail) | (simp; omega) | omega) | (apply mat_r0 rfl rfl rfl <;> first | rfl | (simp <;> fail) | (simp; omega) | omega) | apply mat_sl rfl rfl rfl | apply mat_rb rfl rfl rfl | apply mc)) <;> first | rfl | assumption | (simp <;> fail) | omega | (simp [List.take_of_length_le] <;> fail)) : Mat s d d2 own fro := h
theorem adt2_ {d : D} (h : d.ad = true := by first | rfl | (simp only [D.ad, D.adL, D.ad1, atR_fr, atO_fr, atS_fr, List.all_cons, List.all_nil, Bool.and_self, Bool.and_true, Bool.true_and] <;> fail) | (simp only [D.ad, D.adL, D.ad1, atR_fr, atO_fr, atS_fr, List.all_cons, List.all_nil, Bool.and_self, Bool.and_true, Bool.true_and]; rfl) | simp [D.ad, D.adL, D.ad1, D.fr0, D.pf, D.pf1, D.pf0]) : d.ad = true := h
theorem nrt2_ {d : D} {outs : Option (List D)} {fro : List Nat} (h : fro = [] ∨ (d.nr = true ∧ ∀ cs, outs = some cs → cs.all D.nr0 = true) := by first | exact .inl rfl | exact .inr ⟨rfl, fun _ h => by cases h <;> rfl⟩ | exact .inr ⟨by (simp only [D.nr, D.nr1, D.nrO, D.nr0, atO_nr, atS_nr, List.all_cons, List.all_nil, Bool.and_self, Bool.and_true, Bool.true_and] <;> fail), fun _ h => by cases h <;> rfl⟩ | exact .inr ⟨by (simp only [D.nr, D.nr1, D.nrO, atO_nr, atS_nr, List.all_cons, List.all_nil, Bool.and_self, Bool.and_true, Bool.true_and]; rfl), fun _ h => by cases h <;> rfl⟩) : fro = [] ∨ (d.nr = true ∧ ∀ cs, outs = some cs → cs.all D.nr0 = true) := h
theorem adl2_ {ds : List D} (h : D.adL ds = true := by first | rfl | (simp only [D.adL, D.ad1, atR_fr, atO_fr, atS_fr, List.all_cons, List.all_nil, Bool.and_self, Bool.and_true, Bool.true_and] <;> fail) | (simp only [D.adL, D.ad1, atR_fr, atO_fr, atS_fr, List.all_cons, List.all_nil, Bool.and_self, Bool.and_true, Bool.true_and]; rfl) | simp [D.adL, D.ad1, D.fr0, D.pf1, D.pf0, D.pf]) : D.adL ds = true := h
end Go.Proofs.YtocfhkmdkdjinaaDoor

/- Bytes that stand among other cells, as a string. Over any program. -/
namespace Go.Proofs.YtocfhkmdkdjinaaDoor
open Go Go.RowKit
set_option linter.unusedVariables false
set_option linter.unusedSimpArgs false
section
variable {C : Ctx} {s : St} {ρ : Nat → Pl} {S : Nat → Prop} {Φ : Nat → List Nat} {w : World} {pos : String} {after : Array Edge} {gd : Option (Nat × Bool)} {ty : TypeId}
theorem bc2s_ok (h : RepW C s ρ S Φ w) {a b e : TypeId} (ha : (tiOf C.P a).ty = .slice e) (hb : (tiOf C.P b).ty = .str) (he : (tiOf C.P e).ty = .int .u8) {d : D} {g : Prop} {l : List UInt8} {R : List Nat} (eb : bytc s.ob d = some (g, l, R)) (hg : g) {v : Value} (hr : RV w S ρ s.sh d v []) :
    (convert a b v).run C.P w = .ok (.string (str l)) w := by
  obtain ⟨A, n, cap, rfl, hrd⟩ := bytc_ok h eb hg hr
  obtain rfl := hrd.len
  rcases A with _ | ad
  · have : l = [] := by
      rcases Nat.eq_zero_or_pos l.length with h0 | h0
      · exact List.eq_nil_of_length_eq_zero h0
      · obtain ⟨_, _, h, _⟩ := hrd.cells h0
        cases h
    subst this
    exact run_convert_bytes_nil w a e (ti_slice ha) (ti_int he) 0 cap b (ti_str hb)
  · exact run_convert_bytes_back w a b e ad cap l (ti_slice ha) (ti_int he) (ti_str hb) (fun j hj => by
      have := hrd.news ad rfl j (u8 l[j]) (by rw [u8s_get, List.getElem?_eq_getElem hj]; rfl)
      exact this)
theorem eff_bc2s {dst : Option Tmp} (t t' : TypeId) (x : Operand) {e0 : Nat} (ht : (tiOf C.P t).ty = .slice e0) (ht' : (tiOf C.P t').ty = .str) (he : (tiOf C.P e0).ty = .int .u8) {g : Prop} {l : List UInt8} {R : List Nat} (e : bytc s.ob (ev C s x) = some (g, l, R)) (hg : g) (hd : dstOk C.n dst) :
    Eff C ⟨dst, .convert t t' x, ty, pos, after, gd⟩ s (.str l) [] (opT x) R :=
  eff_pure hd fun σ hT hR a w ρ S Φ h1 h2 => by
    rw [← ev_same (C := C) hT] at e
    obtain ⟨o, g', off, len, hy, hRo⟩ := bytc_form e
    have e' : bytc σ.ob (ev C σ x) = some (g, l, R) := by
      rw [hy] at e ⊢
      unfold bytc at e ⊢
      simp only [hR o (by rw [hRo]; simp)]
      exact e
    have h3 := bc2s_ok h1 ht ht' he e' hg (ev_rv h1 h2 x)
    exact ⟨_, by simp [execOp, h3], .str l⟩
variable {Ti : Nat → TI} {G : Nat → Option D} {n : Nat} {ops : Array Oper} {acc acc' : Acc} {rest rest' : List Oper} {s1 s2 : St} {K : Acc → St → Prop} {W : St → St → Prop}
theorem BS_ {t : Nat} {T T2 e0 : TypeId} {x : Operand} {g : Prop} {l l' : List UInt8} {R : List Nat} {dx : D} (hE : Env C Ti G n) (hk : RG C ops W (([], R) :: acc) rest s2 K)
    (hx : frc (evg G s x) = some dx := by exact rfl) (ht : (Ti T).ty = .slice e0 := by exact rfl) (ht' : (Ti T2).ty = .str := by exact rfl) (he : (Ti e0).ty = .int .u8 := by exact rfl) (e : bytc s.ob dx = some (g, l, R) := by exact rfl) (hl : l = l' := by exact rfl) (hg : g := by exact sg_)
    (hc : gcO ops s gd = .yes := by exact rfl) (hb : dstB n (some t) = true := by exact rfl) (hs : s.puto (some t) (.str l') = s2 := by exact nr_) : RG C ops W acc (⟨some t, .convert T T2 x, ty, pos, after, gd⟩ :: rest) s K := by
  subst hl
  subst hs
  intro M hM hW hend
  have hx' := frc_ok hx
  rw [← hE.g, ← ev_g] at hx'
  rw [← hE.ti] at ht ht' he
  rw [← hx'] at e
  refine hM.step _ _ _ _ _ [] R (effG_yes (o := ⟨some t, _, ty, pos, after, gd⟩) hc ((eff_bc2s T T2 x ht ht' he e hg (dstB_ok hE hb)).weak ?_ (fun _ h => h))) (hk M hM hW hend)
  intro v hv
  simp only [opsT, Op.operands, List.mem_flatMap] at hv ⊢
  exact ⟨x, by simp, hv⟩
end
end Go.Proofs.YtocfhkmdkdjinaaDoor

/- The reference of layer 19: code, Write. Printed by wp.py. -/
namespace Go.Proofs.YtocfhkmdkdjinaaDoor
open Go Go.RowKit
set_option linter.unusedVariables false
set_option linter.unusedSimpArgs false
set_option maxRecDepth 100000
set_option maxHeartbeats 4000000
attribute [local irreducible] inR VC RG VCn sq inS lq nq jq Wk
theorem isCd_def (c : Int) : isCd c = (decide (c = 1) || decide (c = 2) || decide (c = 3) || decide (c = 11)) := by unfold isCd; rfl

namespace Urcode_fc
theorem U : type_of% (@drop_rep UInt8) ∧ type_of% (@drop_rep D) ∧ type_of% (@List.take_zero UInt8) ∧ type_of% (@List.take_zero D) ∧ type_of% @q16_take ∧ type_of% @q16_len ∧ type_of% @q16_fold ∧ type_of% @q16_map ∧ type_of% @decL ∧ type_of% @decI := ⟨(@drop_rep UInt8), (@drop_rep D), (@List.take_zero UInt8), (@List.take_zero D), @q16_take, @q16_len, @q16_fold, @q16_map, @decL, @decI⟩
end Urcode_fc
open Urcode_fc
theorem rcode_fc (c : Int) : FC Tryd.prog GE 84 [.int .i64 c] (.bool (isCd c)) none := by
  refine fi_ 17 [2] ti_eq gpE Tryd.func84 (fun C hE hm hP hrc hrn => ?_)
  refine vs ?_
  refine R_ hE ?_
  refine sq_n ?_
  refine vs ?_
  rw [isCd_def]
  first | refine O_ ?_ | refine OD_ hm ?_
  refine G_ 2 hE ?_
  by_cases h1 : c = 1
  · rw [decide_eq_true h1]
    refine G_ 1 hE ?_
    refine GF_ hE (rfl) ?_
    refine GI_ (.bool true) hE (rfl) ?_
    refine G_ 2 hE ?_
    refine GF_ hE (rfl) ?_
    refine GI_ (.bool true) hE (rfl) ?_
    refine G_ 2 hE ?_
    refine GF_ hE (rfl) ?_
    refine GI_ (.bool true) hE (rfl) ?_
    refine G_ 200 hE ?_
    first | refine rz ?_ | refine ZD_ ?_
    refine A_ ?_
    exact ret_
  · rw [decide_eq_false h1]
    refine G_ 1 hE ?_
    refine GT_ hE (rfl) ?_
    refine GT_ hE (rfl) ?_
    by_cases h2 : c = 2
    · rw [decide_eq_true h2]
      refine G_ 2 hE ?_
      refine GF_ hE (rfl) ?_
      refine GI_ (.bool true) hE (rfl) ?_
      refine G_ 2 hE ?_
      refine GF_ hE (rfl) ?_
      refine GI_ (.bool true) hE (rfl) ?_
      refine G_ 200 hE ?_
      first | refine rz ?_ | refine ZD_ ?_
      refine A_ ?_
      exact ret_
    · rw [decide_eq_false h2]
      refine G_ 2 hE ?_
      refine GT_ hE (rfl) ?_
      refine GT_ hE (rfl) ?_
      by_cases h3 : c = 3
      · rw [decide_eq_true h3]
        refine G_ 2 hE ?_
        refine GF_ hE (rfl) ?_
        refine GI_ (.bool true) hE (rfl) ?_
        refine G_ 200 hE ?_
        first | refine rz ?_ | refine ZD_ ?_
        refine A_ ?_
        exact ret_
      · rw [decide_eq_false h3]
        refine G_ 2 hE ?_
        refine GT_ hE (rfl) ?_
        refine GT_ hE (rfl) ?_
        refine G_ 200 hE ?_
        first | refine rz ?_ | refine ZD_ ?_
        refine A_ ?_
        exact ret_
attribute [local simp] bodyA_nil
attribute [local irreducible] bodyA wrS wrO

theorem rw_end (c i : Int) (au : List UInt8) (L : List (Int × List UInt8)) : List.take 4 [b8 c, b8 i, b8 (((bodyA L).length + 20 : Int) / 256), b8 ((bodyA L).length + 20 : Int)] ++ au ++ bodyA L = wrS c i au L := by
  rw [wrS_def, show ((bodyA L).length + 20 : Int) = ((20 + (bodyA L).length : Nat) : Int) by omega, List.take_of_length_le (by simp), List.append_assoc]
  rfl
theorem rw_step (B v : List UInt8) (x y : UInt8) : List.take (B.length + 2) (B ++ List.take 2 [x, y]) ++ v = B ++ (x :: y :: v) := by
  rw [List.take_of_length_le (by simp)]
  simp
theorem rwrite_fc (c i : Int) (au : List UInt8) (L : List (Int × List UInt8)) (hL : L.length ≤ 1000000) : FC Tryd.prog GE 32 [.agg [.int .i64 c, .int .i64 i, .u8 (gb au 0), .u8 (gb au 1), .u8 (gb au 2), .u8 (gb au 3), .u8 (gb au 4), .u8 (gb au 5), .u8 (gb au 6), .u8 (gb au 7), .u8 (gb au 8), .u8 (gb au 9), .u8 (gb au 10), .u8 (gb au 11), .u8 (gb au 12), .u8 (gb au 13), .u8 (gb au 14), .u8 (gb au 15), .rof 2 L.length (fS L)]] (.tup [.str (wrV c i (q16 au) L).1, .int .i64 (wrV c i (q16 au) L).2]) none := by
  refine fi_ 90 [2, 3] ti_eq gpE Tryd.func32 (fun C hE hm hP hrc hrn => ?_)
  refine vs ?_
  refine R_ hE ?_
  refine sq_n ?_
  refine vs ?_
  refine vs ?_
  first | refine O_ ?_ | refine OD_ hm ?_
  refine G_ 2 hE ?_
  refine rc_ hE hP (rcode_fc c) Tryd.func84 ?_
  refine G_ 2 hE ?_
  cases hcd : isCd c
  · rw [wrV_no (wrO_not fun h => by rw [((wrO_iff c i L).1 h).1] at hcd; cases hcd)]
    refine GF_ hE (rfl) ?_
    refine GF_ hE (rfl) ?_
    refine GI_ (.bool true) hE (rfl) ?_
    refine G_ 2 hE ?_
    refine GF_ hE (rfl) ?_
    refine GF_ hE (rfl) ?_
    refine GI_ (.bool true) hE (rfl) ?_
    refine G_ 200 hE ?_
    first | refine rz ?_ | refine ZD_ ?_
    refine A_ ?_
    exact ret_
  · refine GT_ hE (rfl) ?_
    refine GT_ hE (rfl) ?_
    refine GT_ hE (rfl) ?_
    by_cases hi0 : i < 0
    · rw [wrV_no (wrO_not fun h => by have := (wrO_iff c i L).1 h; omega), decide_eq_true hi0]
      refine G_ 2 hE ?_
      refine GF_ hE (rfl) ?_
      refine GF_ hE (rfl) ?_
      refine GI_ (.bool true) hE (rfl) ?_
      refine G_ 200 hE ?_
      first | refine rz ?_ | refine ZD_ ?_
      refine A_ ?_
      exact ret_
    · rw [decide_eq_false hi0]
      refine G_ 2 hE ?_
      refine GT_ hE (rfl) ?_
      refine GT_ hE (rfl) ?_
      refine GT_ hE (rfl) ?_
      refine G_ 200 hE ?_
      first | refine rz ?_ | refine ZD_ ?_
      refine A_ ?_
      refine C_ hE (fun hi1 => ?_) (fun hi1 => ?_) <;> (try (exfalso; omega))
      · rw [wrV_no (wrO_not fun h => by have := (wrO_iff c i L).1 h; omega)]
        refine A_ ?_
        exact ret_
      · refine A_ ?_
        refine VC.weak ?_ (kniln 4 960 1 (g := 1) (c := .bytes []) rfl rfl rfl)
        refine vl (fun k : Nat => ⟨[(1, .ptr 1 1 0), (2, .str []), (3, .int .i64 0), (4, .sl 960 (1 + 2 * k) 0 (bodyA (L.take k)).length), (5, .int .i64 k)], [(1, ⟨⟨1, 1, 19⟩, some (.cells [.int .i64 c, .int .i64 i, .u8 (gb au 0), .u8 (gb au 1), .u8 (gb au 2), .u8 (gb au 3), .u8 (gb au 4), .u8 (gb au 5), .u8 (gb au 6), .u8 (gb au 7), .u8 (gb au 8), .u8 (gb au 9), .u8 (gb au 10), .u8 (gb au 11), .u8 (gb au 12), .u8 (gb au 13), .u8 (gb au 14), .u8 (gb au 15), .rof 2 L.length (fS L)])⟩), (960, ⟨⟨1 + 2 * k, 1, (bodyA (L.take k)).length⟩, some (.bytes (bodyA (L.take k)))⟩)], []⟩) (fun k => k ≤ L.length ∧ (L.take k).all okA = true ∧ (bodyA (L.take k)).length ≤ 4096) (fun k => L.length - k) 0 ?_ ⟨Nat.zero_le _, rfl, by simp⟩ ?_
        · exact wk_ hrc
        rintro k ⟨hk, hok, hlen⟩
        by_cases hkl : k < L.length
        · have hs := bodyA_succ L hkl
          have hle := bodyA_take_le L (k + 1)
          have hall := fun h => all_take_succ (p := okA) L hkl hok h
          have hat := fun h => all_at (p := okA) L hkl h
          obtain ⟨a, ha⟩ : ∃ a, a = L.getD k (0, []) := ⟨_, rfl⟩
          have hf0 : fS L k 0 = .int .i64 a.1 := by rw [ha]; rfl
          have hf1 : fS L k 1 = .str a.2 := by rw [ha]; rfl
          rw [← ha] at hs hall hat
          have hm2 : List.map (fun i => fS L k i) (List.range 2) = [.int .i64 a.1, .str a.2] := by
            show [fS L k 0, fS L k 1] = _
            rw [hf0, hf1]
          refine A_ ?_
          refine C_ hE (fun hc2 => ?_) (fun hc2 => ?_) <;> (try (exfalso; omega))
          refine A_ ?_
          rw [hm2, show List.drop [D.int .i64 a.1, D.str a.2].length [D.int .i64 0, D.str []] = [] from rfl, ← ha]
          refine C_ hE (fun hc3 => ?_) (fun hc3 => ?_) <;> (try (exfalso; omega))
          · rw [wrV_no (wrO_not fun h => by have := (okA_iff a).1 (hat ((wrO_iff c i L).1 h).2.2.2.1); omega)]
            refine A_ ?_
            exact ret_
          · have hoa : okA a = true := (okA_iff a).2 (by omega)
            have hal := (okA_iff a).1 hoa
            rw [hs, List.length_append, enA_len] at hle
            obtain ⟨B, hB⟩ : ∃ B, B = bodyA (L.take k) := ⟨_, rfl⟩
            rw [← hB] at hs hle hlen ⊢
            refine A_ ?_
            rw [rw_step]
            refine C_ hE (fun hc4 => ?_) (fun hc4 => ?_) <;> (try (exfalso; omega))
            · rw [wrV_no (wrO_not fun h => by have := (wrO_iff c i L).1 h; omega)]
              refine A_ ?_
              exact ret_
            · refine A_ ?_
              have hl2 : (bodyA (L.take (k + 1))).length = B.length + 2 + a.2.length := by rw [hs, List.length_append, enA_len]; omega
              refine lq_n (k + 1) ?_ ⟨by omega, hall hoa, by omega⟩ (by omega)
              rw [hl2, hs]
              rw [show enA a = b8 a.1 :: b8 ((a.2.length : Int) + 2) :: a.2 from rfl]
              exact wk_ hrc
        · obtain rfl : k = L.length := by omega
          rw [List.take_length] at hok hlen ⊢
          refine A_ ?_
          refine C_ hE (fun hc2 => ?_) (fun hc2 => ?_) <;> (try (exfalso; omega))
          refine A_ ?_
          refine C_ hE (fun hc3 => ?_) (fun hc3 => ?_) <;> (try (exfalso; omega))
          · rw [wrV_no (wrO_not fun h => by have := (wrO_iff c i L).1 h; omega)]
            refine A_ ?_
            exact ret_
          · have hw : wrO c i L = true := (wrO_iff c i L).2 ⟨hcd, by omega, by omega, hok, by omega⟩
            rw [wrV_yes hw]
            refine A_ ?_
            first | refine O_ ?_ | refine OD_ hm ?_
            refine G_ 15 hE ?_
            refine BS_ hE ?_ (l' := q16 au)
            refine G_ 200 hE ?_
            first | refine rz ?_ | refine ZD_ ?_
            refine A_ ?_
            rw [rw_end]
            exact ret_
end Go.Proofs.YtocfhkmdkdjinaaDoor

/- A call that takes what it is handed for its own: the objects are gone behind it. Over any program. -/
namespace Go.Proofs.YtocfhkmdkdjinaaDoor
open Go Go.RowKit
set_option linter.unusedVariables false
set_option linter.unusedSimpArgs false

/-- Objects that are gone. -/
def deadO (s : St) (own : List Nat) : List (Nat × Ob) := own.map fun o => (o, ⟨(s.ob o).sh, none⟩)
theorem lays_dead : ∀ (own : List Nat) (s s0 : St) (x : Nat), (∀ o ∈ own, (s.ob o).sh = (s0.ob o).sh) → (s.lays (own.map fun o => (o, ⟨(s0.ob o).sh, none⟩))).ob x = if x ∈ own then ⟨(s0.ob x).sh, none⟩ else s.ob x
  | [], s, s0, x, _ => by simp [St.lays]
  | o :: own, s, s0, x, h => by
    show ((s.lay o ⟨(s0.ob o).sh, none⟩).lays (own.map fun o => (o, ⟨(s0.ob o).sh, none⟩))).ob x = _
    have h' : ∀ y ∈ own, ((s.lay o ⟨(s0.ob o).sh, none⟩).ob y).sh = (s0.ob y).sh := fun y hy => by
      rw [St.ob_lay]
      split
      · rename_i e; subst e; rfl
      · exact h y (by simp [hy])
    rw [lays_dead own _ s0 x h', St.ob_lay]
    by_cases hx : x ∈ own
    · rw [if_pos hx, if_pos (by simp [hx])]
    · rw [if_neg hx]
      by_cases hxo : x = o
      · subst hxo; rw [if_pos rfl, if_pos (by simp)]
      · rw [if_neg hxo, if_neg (by simp [hx, hxo])]
theorem dead_ob (s : St) (own : List Nat) (x : Nat) : (s.lays (deadO s own)).ob x = if x ∈ own then ⟨(s.ob x).sh, none⟩ else s.ob x := lays_dead own s s x (fun _ _ => rfl)
theorem dead_sh (s : St) (own : List Nat) : (s.lays (deadO s own)).sh = s.sh := by
  funext x
  unfold St.sh
  rw [dead_ob]
  split <;> rfl
theorem dead_live {s : St} {own : List Nat} {x : Nat} {c : Cont} (h : ((s.lays (deadO s own)).ob x).ct = some c) : x ∉ own ∧ (s.ob x).ct = some c := by
  rw [dead_ob] at h
  split at h
  · cases h
  · exact ⟨by assumption, h⟩
section
variable {C : Ctx} {s : St} {ρ : Nat → Pl} {S S' : Nat → Prop} {Φ : Nat → List Nat} {w w' : World}
theorem RepW.dead (h : RepW C s ρ S Φ w) {own B : List Nat} (hB : ∀ b ∈ B, ∃ o ∈ own, (s.ob o).ct.isSome = true ∧ b ∈ Φ o) (hos : w'.os = w.os) (htape : w'.tape = w.tape) (hout : w'.output = w.output) (hsz : w.heap.size ≤ w'.heap.size) (hszs : Szs w w') (hw : ∀ b, b < w.heap.size → b ∉ B → w'.heap[b]? = w.heap[b]?) :
    RepW C (s.lays (deadO s own)) ρ S Φ w' ∧ ∀ d v, RV w S ρ s.sh d v [] → RV w' S ρ (s.lays (deadO s own)).sh d v [] := by
  have hBo : ∀ b ∈ B, ∃ o c, o ∈ own ∧ (s.ob o).ct = some c ∧ b ∈ Φ o := fun b hb => by
    obtain ⟨o, ho, hl, hbo⟩ := hB b hb
    obtain ⟨c, hc⟩ := Option.isSome_iff_exists.1 hl
    exact ⟨o, c, ho, hc, hbo⟩
  have hwS : ∀ b, S b → w'.heap[b]? = w.heap[b]? := fun b hb => hw b (h.s1 b hb).1 (fun hm => by
    obtain ⟨o, c, _, hc, hbo⟩ := hBo b hm
    exact ((h.own o c hc).2 b hbo).1 hb)
  have hH : ∀ o, (s.sh o).gen ≤ (s.sh o).gen ∧ ((s.sh o).gen = (s.sh o).gen → s.sh o = s.sh o ∧ ρ o = ρ o) := fun _ => ⟨Nat.le_refl _, fun _ => ⟨rfl, rfl⟩⟩
  have hm : ∀ {d v}, RV w S ρ s.sh d v [] → RV w' S ρ s.sh d v [] := fun hr => hr.mono (fun _ h => h) hwS hH (by simp)
  have hkeep : ∀ x c, x ∉ own → (s.ob x).ct = some c → ∀ b ∈ Φ x, w'.heap[b]? = w.heap[b]? := fun x c hx hc b hb => hw b ((h.own x c hc).2 b hb).2.1 (fun hm => by
    obtain ⟨o, c', ho, hc', hbo⟩ := hBo b hm
    exact h.dis x o c c' hc hc' (fun e => hx (e ▸ ho)) b hb hbo)
  rw [dead_sh]
  refine ⟨⟨hos.trans h.os, htape.trans h.tape, hout.trans h.output, Nat.le_trans h.size hsz, h.szs.trans hszs, fun b hb hM => ?_, h.s0, fun b hb => ⟨Nat.lt_of_lt_of_le (h.s1 b hb).1 hsz, (h.s1 b hb).2⟩, h.sc.same hwS, fun g cs hg => by rw [dead_sh]; exact hm (h.gl g cs hg), fun o c hc => ?_, fun d v hv => by rw [dead_sh]; exact hm (h.rv d v hv), fun r hr => ?_, by rw [lays_dk]; exact h.dkn, fun o c hc => ?_, fun o o' c c' hc hc' hne => h.dis o o' c c' (dead_live hc).2 (dead_live hc').2 hne⟩, fun d v hr => hm hr⟩
  · refine (hw b (Nat.lt_of_lt_of_le hb h.size) (fun hmB => ?_)).trans (h.fr b hb hM)
    obtain ⟨o, c, _, hc, hbo⟩ := hBo b hmB
    rcases ((h.own o c hc).2 b hbo).2.2.1 with h1 | h1
    · omega
    · exact hM h1
  · rw [dead_sh]
    exact (h.ob o c (dead_live hc).2).mono (fun _ h => h) hwS hH (hkeep o c (dead_live hc).1 (dead_live hc).2)
  · rw [lays_dk] at hr
    have hd := h.dk r hr
    refine (hw r (Array.getElem?_eq_some_iff.1 hd).1 (fun hmB => ?_)).trans hd
    obtain ⟨o, c, _, hc, hbo⟩ := hBo r hmB
    exact ((h.own o c hc).2 r hbo).2.2.2 hr
  · rw [lays_dk]
    have := h.own o c (dead_live hc).2
    exact ⟨this.1, fun b hb => ⟨(this.2 b hb).1, Nat.lt_of_lt_of_le (this.2 b hb).2.1 hsz, (this.2 b hb).2.2⟩⟩
theorem call_own (h : RepW C s ρ S Φ w) {f : Nat} {ins : List D} {res : D} (fc : FC C.P C.G f ins res none) {ds : List D} {vs : List Value} (hp : PR w S ρ s.sh ds vs) {own fro : List Nat} (hm : Mat s (.tup ds) (.tup ins) own fro) (hnd : own.Nodup) (hdis : ∀ o ∈ own, o ∉ fro)
    (hnr : fro = [] ∨ res.nr = true) (had : res.ad = true) (t : Nat) :
    Calls C.P f vs.toArray w fun e w' => ∃ v ρ' S' Φ', e = .returned v ∧ RepW C (adopt (s.lays (deadO s own)) t res).2 ρ' S' Φ' w' ∧ (∀ d v, RV w S ρ s.sh d v [] → RV w' S' ρ' (adopt (s.lays (deadO s own)) t res).2.sh d v []) ∧ RV w' S' ρ' (adopt (s.lays (deadO s own)) t res).2.sh (adopt (s.lays (deadO s own)) t res).1 v [] := by
  obtain ⟨F, k1, k2, k3⟩ := hm.sound h (S' := Lent s ρ S Φ fro) (fun b hb => .inl hb) (lent_ok h fro) hnd hp.tup
  obtain ⟨vs', Fs, e', q1, q2, q3, q4⟩ := nv_tup k1
  obtain rfl := tuple_inj e'
  subst q3
  have hgl : GlOk C.G w (Lent s ρ S Φ fro) := fun g cs hg => nv_S (fun b hb => .inl hb) (pf0_nv (C.gp g cs hg) (h.gl g cs hg)).2
  refine (fc w (Lent s ρ S Φ fro) vs Fs (lent_c h fro) hgl q1 q2 q4 k2 (fun b hb => ?_)).mono ?_
  · obtain ⟨o, ho, hl, hbo⟩ := k3 b hb
    obtain ⟨c, hc⟩ := Option.isSome_iff_exists.1 hl
    exact ⟨lent_own h hdis ho hl hbo, ((h.own o c hc).2 b hbo).2.1⟩
  rintro e w' ⟨v, F, Fo, S', rfl, hos, htape, hoo, hsz, hszs, hfr, hS1, hS2, hSc, hres, hou, hnd2, hF⟩
  have hFo : Fo = [] := hou
  subst hFo
  rw [List.append_nil] at hnd2 hF
  obtain ⟨Sn, p1, p2, p3⟩ : ∃ Sn : Nat → Prop, (∀ b, S b → Sn b) ∧ (∀ b, Sn b → S' b ∧ (S b ∨ w.heap.size ≤ b ∨ b ∈ Fs.flatten)) ∧ NV w' Sn res v F := by
    rcases hnr with rfl | n1
    · refine ⟨S', fun b hb => hS1 b (.inl hb), fun b hb => ⟨hb, ?_⟩, hres⟩
      rcases (hS2 b hb).2 with (h1 | ⟨o, ho, _⟩) | h1
      · exact .inl h1
      · cases ho
      · exact .inr h1
    · exact ⟨S, fun _ h => h, fun b hb => ⟨hS1 b (.inl hb), .inl hb⟩, nr_S n1 hres⟩
  have hgot : ∀ b ∈ Fs.flatten, ∃ o c, o ∈ own ∧ (s.ob o).ct = some c ∧ b ∈ Φ o := fun b hb => by
    obtain ⟨o, ho, hl, hbo⟩ := k3 b hb
    obtain ⟨c, hc⟩ := Option.isSome_iff_exists.1 hl
    exact ⟨o, c, ho, hc, hbo⟩
  obtain ⟨a1, a2⟩ := h.dead (w' := w') (own := own) (B := Fs.flatten) k3 hos htape hoo hsz hszs hfr
  have hother : ∀ x c', x ∉ own → (s.ob x).ct = some c' → ∀ b ∈ Φ x, ¬ Sn b := fun x c' hx hc' b hb hSn => by
    rcases (p2 b hSn).2 with h1 | h1 | h1
    · exact ((h.own x c' hc').2 b hb).1 h1
    · have := ((h.own x c' hc').2 b hb).2.1; omega
    · obtain ⟨o, c, ho, hc, hbo⟩ := hgot b h1
      exact h.dis x o c' c hc' hc (fun e => hx (e ▸ ho)) b hb hbo
  obtain ⟨b1, b2⟩ := a1.grow p1 (fun b hb => ⟨(hS2 b (p2 b hb).1).1, by
    rcases (p2 b hb).2 with h1 | h1 | h1
    · exact (h.s1 b h1).2
    · exact .inr (.inl (Nat.le_trans h.size h1))
    · obtain ⟨o, c, ho, hc, hbo⟩ := hgot b h1
      exact .inr ((h.own o c hc).2 b hbo).2.2.1⟩) (fun x c' hx b hb => hother x c' (dead_live hx).1 (dead_live hx).2 b hb) (fun r hr hSn => by
    rw [lays_dk] at hr
    rcases (p2 r hSn).2 with h1 | h1 | h1
    · exact (h.dkn.2 r hr).2 h1
    · have := (Array.getElem?_eq_some_iff.1 (h.dk r hr)).1; omega
    · obtain ⟨o, c, ho, hc, hbo⟩ := hgot r h1
      exact ((h.own o c hc).2 r hbo).2.2.2 hr) (fun b hb => hSc b (p2 b hb).1)
  obtain ⟨ρ2, Φ2, g1, g2, g3, _⟩ := adopt_ok b1 t had (F := F) (X := []) (v := v) (by
    rw [List.append_nil]
    refine ⟨hnd2, fun b hb => ?_⟩
    obtain ⟨f1, f2, f3⟩ := hF b hb
    refine ⟨fun hb' => f1 (p2 b hb').1, f2, ?_, ?_, fun x c' hx hm => ?_⟩
    · rcases f3 with f3 | f3
      · exact .inl (Nat.le_trans h.size f3)
      · obtain ⟨o, c, ho, hc, hbo⟩ := hgot b f3
        exact ((h.own o c hc).2 b hbo).2.2.1
    · rw [lays_dk]
      rcases f3 with f3 | f3
      · intro e; have := (Array.getElem?_eq_some_iff.1 (h.dk b e)).1; omega
      · obtain ⟨o, c, ho, hc, hbo⟩ := hgot b f3
        exact ((h.own o c hc).2 b hbo).2.2.2
    · obtain ⟨x1, x2⟩ := dead_live hx
      rcases f3 with f3 | f3
      · have := ((h.own x c' x2).2 b hm).2.1; omega
      · obtain ⟨o, c, ho, hc, hbo⟩ := hgot b f3
        exact h.dis x o c' c x2 hc (fun e => x1 (e ▸ ho)) b hm hbo) p3
  exact ⟨v, ρ2, Sn, Φ2, rfl, g1, fun d u hr => g2 d u (b2 d u (a2 d u hr)), g3⟩
theorem eff_own {P : Program} {G : Nat → Option D} {dst : Option Tmp} {ty : TypeId} {pos : String} {after : Array Edge} {gd : Option (Nat × Bool)} {fo : Operand} {xs : List Operand} {ts : Array TypeId} {f : Nat} (hf : ev C s fo = .fn f) (hok : fnOk P f)
    {ins : List D} {res : D} (fc : FC P G f ins res none) (hP : C.P = P) (hG : C.G = G) {own fro : List Nat} (hm : Mat s (.tup (xs.map (ev C s))) (.tup ins) own fro) (hnd : own.Nodup) (hdis : ∀ o ∈ own, o ∉ fro)
    (hnr : fro = [] ∨ res.nr = true) (had : res.ad = true) (hd : dstOk C.n dst) :
    Eff C ⟨dst, .call { callee := .value fo, args := xs.toArray, argTypes := ts }, ty, pos, after, gd⟩ s (adO s.ob (dst.getD 0) res).1 (deadO s own ++ (adO s.ob (dst.getD 0) res).2) (opT fo ++ xs.flatMap opT) (own ++ fro ++ (adO s.ob (dst.getD 0) res).2.map (·.1)) := by
  subst hP hG
  intro σ hT hR K Q a w hrep hK
  obtain ⟨h1, h2, ρ, S, Φ, h3, h4⟩ := hrep
  have hfv : a.eval fo = .func (.func f) #[] #[] := by
    have := ev_rv h3 h4 fo
    rw [ev_same (C := C) (fun t ht => hT t (List.mem_append_left _ ht)), hf] at this
    generalize a.eval fo = v at this
    cases this
    rfl
  have hxs : xs.map (ev C σ) = xs.map (ev C s) := List.map_congr_left fun x hx => ev_same fun t ht => hT t (List.mem_append_right _ (List.mem_flatMap.2 ⟨x, hx, ht⟩))
  have hpr : PR w S ρ σ.sh (xs.map (ev C σ)) (xs.map a.eval) := ⟨by simp, fun i c u p1 p2 => by
    rw [List.getElem?_map] at p1 p2
    rcases hx : xs[i]? with _ | x
    · rw [hx] at p1; cases p1
    · rw [hx] at p1 p2
      injection p1 with p1
      injection p2 with p2
      subst p1; subst p2
      exact ev_rv h3 h4 x⟩
  rw [hxs] at hpr
  have hsame : ∀ o ∈ own ++ fro, σ.ob o = s.ob o := fun o ho => hR o (by simp at ho ⊢; rcases ho with ho | ho <;> simp [ho])
  have hm' := hm.loc hsame
  have hcall := call_own h3 fc hpr hm' hnd hdis hnr had (dst.getD 0)
  have hoo : deadO σ own = deadO s own := List.map_congr_left fun o ho => by rw [hsame o (by simp [ho])]
  have hadO : adO (σ.lays (deadO s own)).ob (dst.getD 0) res = adO s.ob (dst.getD 0) res := adO_loc _ _ fun p hp => by
    have e : ((σ.lays (deadO s own)).ob p.1).sh = (σ.ob p.1).sh := by
      rw [← hoo]
      exact congrFun (dead_sh σ own) p.1
    rw [e, hR p.1 (by simp; exact .inr (.inr ⟨_, hp⟩))]
  unfold Oper.wp
  have hrun : (execOp a.eval ⟨dst, .call { callee := .value fo, args := xs.toArray, argTypes := ts }, ty, pos, after, gd⟩).run C.P w = .ok (.enter f (xs.map a.eval).toArray) w := by
    simp only [execOp, resolve, Sem.run_bind]
    simp [Deferred.ofValue, hfv, invoke, run_callf hok]
  rw [hrun]
  show Calls _ _ _ _ _
  refine hcall.mono ?_
  rintro e w' ⟨v, ρ', S', Φ', rfl, k1, k2, k3⟩
  rw [hoo, adO_eq, hadO] at k1 k2 k3
  simp only [← lays_append] at k1 k2 k3
  exact hK _ _ (rep_put (s' := σ.lays (deadO s own ++ (adO s.ob (dst.getD 0) res).2)) (by rw [lays_dk]; exact h1) h2 k1 (fun t => by rw [lays_slot]; exact k2 _ _ (h4 t)) dst hd _ v k3)
variable {Ti : Nat → TI} {G : Nat → Option D} {n : Nat} {ops : Array Oper} {acc acc' : Acc} {rest rest' : List Oper} {s1 s2 : St} {K : Acc → St → Prop} {W : St → St → Prop}
/-- A call that takes objects for its own. -/
theorem rco_ {P : Program} (hE : Env C Ti G n) (hP : C.P = P) {dst : Option Tmp} {f : Nat} {args : Array Operand} {ts : Array TypeId} {ty : TypeId} {pos : String} {after : Array Edge} {gd : Option (Nat × Bool)} {ins : List D} {res d1 : D} (fc : FC P G f ins res none) {fn : Func} (hfn : P.funcs[f]? = some fn)
    {own fro : List Nat} {obs : List (Nat × Ob)} {nm R : List Nat} (hk : RG C ops W ((nm, R) :: acc) rest s2 K)
    (h2 : (fn.name == "runtime.NumGoroutine") = false := by exact rfl) (h3 : fn.body.isNone = false := by exact rfl) (hm : Mat s (.tup (args.toList.map (evg G s))) (.tup ins) own fro := by exact ma2_) (hnd : own.Nodup := by decide) (hdis : ∀ o ∈ own, o ∉ fro := by decide)
    (hnr : fro = [] ∨ res.nr = true := by first | exact .inl rfl | exact .inr rfl | exact .inr (by simp only [D.nr, D.nr1, D.nrO, atO_nr, atS_nr, List.all_cons, List.all_nil, Bool.and_self, Bool.and_true, Bool.true_and]; rfl)) (had : res.ad = true := by exact adt2_) (hd : dstB n dst = true := by exact rfl) (hgd : gcO ops s gd = .yes := by exact rfl)
    (ho : deadO s own ++ (adO s.ob (dst.getD 0) res).2 = obs := by (simp only [deadO, List.map_cons, List.map_nil, List.cons_append, List.nil_append, List.append_nil, adO, adTO, adLO, ad1O, Option.getD_some, St.ob, look, Nat.reduceEqDiff, reduceIte, Z, U]; rfl)) (hd1 : (adO s.ob (dst.getD 0) res).1 = d1 := by exact nc_) (hs : (s.lays obs).puto dst d1 = s2 := by exact nr_) (hnm : obs.map (·.1) = nm := by exact nc_) (hR : own ++ fro ++ (adO s.ob (dst.getD 0) res).2.map (·.1) = R := by exact nc_) :
    RG C ops W acc (⟨dst, .call { callee := .value (.func f), args := args, argTypes := ts }, ty, pos, after, gd⟩ :: rest) s K := by
  subst hs; subst hd1; subst hR; subst ho; subst hnm
  intro M hM hW hend
  refine hM.step _ _ _ _ _ _ _ (effG_yes (o := ⟨dst, .call { callee := .value (.func f), args := args, argTypes := ts }, ty, pos, after, gd⟩) hgd ((eff_own (P := P) (G := G) (fo := .func f) (xs := args.toList) rfl (fnOk_of hfn h2 h3) fc hP hE.g (by rw [ev_g, hE.g]; exact hm) hnd hdis hnr had (dstB_ok hE hd)).weak ?_ (fun _ h => h))) (hk M hM hW hend)
  intro z hz
  simp only [opsT, Op.operands, Call.operands, List.mem_flatMap] at hz ⊢
  rcases List.mem_append.1 hz with hz | hz
  · simp [opT] at hz
  · obtain ⟨x, hx, hz⟩ := List.mem_flatMap.1 hz
    exact ⟨x, by simp [hx], hz⟩
end
end Go.Proofs.YtocfhkmdkdjinaaDoor
