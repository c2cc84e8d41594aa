/- What the claim leans on, text Zia: Apz. No condition beyond what each lemma states. -/
import Derived.Test.YtocfhkmdkdjinaaDoorZd

/- append of noughts ('append(s, make([]byte, n)...)'). Over any program. -/
namespace Go.Proofs.YtocfhkmdkdjinaaDoor
open Go Go.RowKit
set_option linter.unusedVariables false
set_option linter.unusedSimpArgs false

theorem zc_rep (k : Nat) : Builtin.zeroCells (Value.int .u8 0).cells k = ((u8s (List.replicate k 0)).take (k * 1)).toArray := by
  apply Array.ext
  · simp [Builtin.zeroCells, u8s, Value.cells]
  · intro i h1 h2
    simp [Builtin.zeroCells, u8s, Value.cells, u8, Nat.mod_one]
theorem run_append_mk {P : Program} {w : World} {T tn S E ty : TypeId} {kn : IntKind} (bt : SlTy P T E (.int .u8 0) 1 1) (htn : P.underlying tn = some (.int kn)) (hS : P.underlying S = some .string) (A : Option Addr) (n cap k : Nat) (h : n + k ≤ 140737488355328) {xs : List Value} {b : Nat} (own : RowX w 1 A n cap xs b) :
    (Builtin.append_ #[T, tn] ty #[.slice A n cap, .int .i64 (k : Int)]).run P w = (Builtin.append_ #[T, S] ty #[.slice A n cap, .string (str (List.replicate k 0))]).run P w := by
  obtain ⟨i, hi, hz0, hz1, hz2⟩ := info_parts bt.info
  have hsrc : Src P w S (.string (str (List.replicate k 0))) 1 (List.replicate k (0 : UInt8)).length (u8s (List.replicate k 0)) := src_string (P := P) (w := w) hS (List.replicate k (0 : UInt8))
  rw [List.length_replicate] at hsrc
  have hl0 : ∀ W, (Builtin.lenOf (.string (str (List.replicate k 0)))).run P W = .ok k W := fun W => hsrc.len W
  have hfc : ∀ W, W.heap = w.heap → (Builtin.firstCells 1 k (.string (str (List.replicate k 0)))).run P W = .ok (Builtin.zeroCells (Value.int .u8 0).cells k) W := fun W hW => by rw [zc_rep]; exact hsrc.cells k W (Nat.le_refl _) hW
  clear hsrc
  generalize Value.string (str (List.replicate k 0)) = v at hl0 hfc ⊢
  have h48' : ¬ (281474976710656 < (k : Int)) := by omega
  have hw : IntKind.i64.wrap (k : Int) = k := by rw [IntKind.wrap_i64]; omega
  have hneg : ¬ ((k : Int) < 0) := by omega
  have h48i : ¬ (281474976710656 < (k : Int) * (1 : Int)) := by omega
  have h63 : ¬ (9223372036854775807 < ((n : Int) + (k : Int))) := by omega
  have hz : k = 0 → Builtin.zeroCells (Value.int .u8 0).cells k = #[] := fun e => by subst e; simp [Builtin.zeroCells]
  have hold : (Builtin.firstCells 1 n (.slice A n cap)).run P w.drew = .ok xs.toArray w.drew := by
    obtain ⟨o1, o2, o3, o4⟩ := own
    rcases o4 with ⟨rfl, rfl⟩ | ⟨off, cur, E', fz, rfl, hh, hf, hs, htk⟩
    · have hx : xs = [] := List.eq_nil_of_length_eq_zero (by simpa using o1)
      subst hx
      rcases A with _ | ad
      · exact run_firstCells_none w.drew 1 0 0 0
      · exact run_firstCells_some w.drew 1 0 ad 0 0 [] (by simp) (fun j v hj => by simp at hj)
    · refine run_firstCells_some w.drew 1 n ⟨b, off, none⟩ n cap xs o1 (fun j v hj => ?_)
      rw [add_lit]
      show w.cell? _ = _
      rw [cell_of_row w b (off + j) cur E' fz hh, ← Array.getElem?_toList]
      rw [← htk] at hj
      exact drop_take_get hj
  have hfc' := hfc w.drew rfl
  by_cases hk : k = 0
  · subst hk
    have hz' := hz rfl
    have hw0 : IntKind.i64.wrap 0 = 0 := by rw [IntKind.wrap_i64]; omega
    by_cases hr : n ≤ cap
    · cases A <;> simp [Builtin.append_, run_underlying bt.sl, run_underlying htn, run_underlying hS, sizeOf, typeInfo, zeroValue, hi, hz0, hz1, hz2, asInt, asIntOf, hr, hl0, hfc, hz', hw0, storeCells]
    · have hf : ¬ (281474976710656 < Builtin.nextslicecap n cap) := by
        have := growslice_fits (bytes := 1) (show cap < n by omega) (by omega)
        omega
      simp [Builtin.append_, run_underlying bt.sl, run_underlying htn, run_underlying hS, sizeOf, typeInfo, zeroValue, hi, hz0, hz1, hz2, asInt, asIntOf, hr, hl0, hfc, hz', hw0, hf, hold, hfc', Question.forced, show ¬ (9223372036854775807 < (n : Int)) by omega]
  · by_cases hr : n + k ≤ cap
    · cases A <;> simp [Builtin.append_, run_underlying bt.sl, run_underlying htn, run_underlying hS, sizeOf, typeInfo, zeroValue, hi, hz0, hz1, hz2, asInt, asIntOf, hw, hneg, h48i, h48', h63, hr, hl0, hfc, hk]
    · have hf : ¬ (281474976710656 < Builtin.nextslicecap (n + k) cap) := by
        have := growslice_fits (bytes := 1) (show cap < n + k by omega) (by omega)
        omega
      simp [Builtin.append_, run_underlying bt.sl, run_underlying htn, run_underlying hS, sizeOf, typeInfo, zeroValue, hi, hz0, hz1, hz2, asInt, asIntOf, hw, hneg, h48i, h48', h63, hr, hl0, hfc, hk, hf, hold, hfc', Question.forced]
/-- append of noughts to bytes. -/
def apzD (Ti : Nat → TI) (O : Nat → Ob) (T tn Sy : TypeId) (x : D) (k : Int) : Option (Prop × Nat × Cont × Nat × List Nat) :=
  match (Ti T).ty, (Ti tn).ty, (Ti Sy).ty, x with
  | .slice e, .int _, .str, .sl o g off len =>
    match (O o).ct with
    | some (.bytes l) => some ((g = (O o).sh.gen ∧ (O o).sh.esz = 1 ∧ (Ti e).zero = .u8 0 ∧ (Ti e).sz = 1 ∧ (Ti e).by_ = 1 ∧ 0 ≤ k ∧ len + k.toNat ≤ 140737488355328), o, .bytes ((l.drop off).take len ++ List.replicate k.toNat 0), len + k.toNat, [o])
    | _ => none
  | _, _, _, _ => none
section
variable {C : Ctx} {s : St} {ρ : Nat → Pl} {S : Nat → Prop} {Φ : Nat → List Nat} {w : World}
theorem apz_ok (h : RepW C s ρ S Φ w) {T tn Sy ty : TypeId} {x : D} {k : Int} {g : Prop} {o : Nat} {c : Cont} {n : Nat} {R : List Nat} (e : apzD (tiOf C.P) s.ob T tn Sy x k = some (g, o, c, n, R)) (hg : g) {vx : Value} (hx : RV w S ρ s.sh x vx []) :
    Outc C s S ρ w ((Builtin.append_ #[T, tn] ty #[vx, .int .i64 k]).run C.P w) (s.lay1 o 1 c) (.sl o ((s.sh o).gen + 1) 0 n) := by
  unfold apzD at e
  split at e
  · rename_i el kn o' g' off len ht htn hS
    split at e
    · rename_i l ho
      injection e with e; injection e with e1 e2; injection e2 with e2 e3; injection e3 with e3 e4; injection e4 with e4 e5; subst e1; subst e2; subst e3; subst e4
      obtain ⟨gg, ge, g2, g3, g4, gk, g5⟩ := hg
      obtain ⟨k, rfl⟩ : ∃ m : Nat, k = m := ⟨k.toNat, by omega⟩
      rw [Int.toNat_natCast] at g5 ⊢
      obtain ⟨z, hz⟩ := slTy_of (P := C.P) ht (by rw [g2]; simp) (by rw [g2, g3]; rfl) (by rw [g2]; rfl) (by omega)
      rw [g3, g4] at hz
      have hes : (s.sh o').esz = 1 := ge
      obtain ⟨A, cap, xs, rfl, hrow, hbb, hrd, hxr⟩ := h.row ho (inv_sl hx gg) (by omega) (fun i _ => rfl)
      rw [hes] at hrow hrd
      have hbt : SlTy C.P T el (.int .u8 0) 1 1 := by
        obtain ⟨i, z', hi, hs, hb, hz', hzv⟩ := ti_zero (P := C.P) (t := el) (by rw [g2]; simp)
        have hv : z' = .int .u8 0 := by
          have hr : RV (default : World) (fun _ => False) (fun _ => ⟨0, 0, 0⟩) (fun _ => ⟨0, 0, 0⟩) (tiOf C.P el).zero z' [] := by rw [← hzv]; exact ofVal_ok z'
          rw [g2] at hr
          exact inv_u8 hr
        subst hv
        exact ⟨ti_slice ht, by rw [hi]; simp [hz', hs, hb, g3, g4], rfl, by decide⟩
      have := apb_ok (ty := ty) h (t := 0) (T := T) (T2 := Sy) (x := .sl o' g' off len) (y := .str (List.replicate k 0)) (by unfold apbD bsrc; simp only [ht, hS, ho]; rfl) (by
        refine ⟨trivial, gg, ge, g2, g3, g4, ?_⟩
        simp only [bytN, List.length_replicate]
        exact g5) hx (.str _)
      rw [show bytN (.str (List.replicate k 0)) = k from List.length_replicate] at this
      rw [run_append_mk hbt (ti_int htn) (ti_str hS) A len cap k g5 hrow]
      exact this
    · cases e
  · cases e
theorem apzD_loc {P : Program} {O O' : Nat → Ob} {T tn Sy : TypeId} {x : D} {k : Int} {g : Prop} {o : Nat} {c : Cont} {n : Nat} {R : List Nat} (e : apzD (tiOf P) O T tn Sy x k = some (g, o, c, n, R)) (h : ∀ o ∈ R, O' o = O o) : apzD (tiOf P) O' T tn Sy x k = some (g, o, c, n, R) ∧ o ∈ R := by
  unfold apzD at *
  split at e
  · rename_i el kn o' g' off len ht htn hS
    split at e
    · rename_i l ho
      injection e with e; injection e with e1 e2; injection e2 with e2 e3; injection e3 with e3 e4; injection e4 with e4 e5; subst e1; subst e2; subst e3; subst e4; subst e5
      have q := h o' (by simp)
      simp only [ht, htn, hS, q, ho]
      exact ⟨trivial, List.mem_cons_self⟩
    · cases e
  · cases e
variable {t : Nat} {pos : String} {after : Array Edge} {gd : Option (Nat × Bool)} {ty : TypeId}
theorem eff_apz {dst : Option Tmp} (T tn Sy : TypeId) (x y : Operand) {k : Int} (hy : ev C s y = .int .i64 k) {g : Prop} {o : Nat} {c : Cont} {n : Nat} {R : List Nat} (e : apzD (tiOf C.P) s.ob T tn Sy (ev C s x) k = some (g, o, c, n, R)) (hg : g) (hd : dstOk C.n dst) :
    Eff C ⟨dst, .call { callee := .builtin .append, args := #[x, y], argTypes := #[T, tn] }, ty, pos, after, gd⟩ s (.sl o ((s.ob o).sh.gen + 1) 0 n) [(o, nob s o 1 c)] (opT x ++ opT y) R :=
  eff_lay hd fun σ hT hR a w ρ S Φ h1 h2 => by
    obtain ⟨q1, q2⟩ := opT2 (C := C) hT
    rw [← q1] at e
    rw [← q2] at hy
    obtain ⟨e', ho⟩ := apzD_loc e hR
    have h := apz_ok (ty := ty) h1 e' hg (ev_rv h1 h2 x)
    have hv := ev_rv h1 h2 y
    rw [hy] at hv
    rw [← inv_int hv] at h
    rw [nob_same (hR o ho), ← gen_same (hR o ho)]
    exact ⟨_, by simp [execOp, resolve, invoke, builtin], h⟩
variable {Ti : Nat → TI} {G : Nat → Option D} {n : Nat} {ops : Array Oper} {acc acc' : Acc} {rest rest' : List Oper} {s1 s2 : St} {K : Acc → St → Prop} {W : St → St → Prop}
/-- That operation in a region. -/
theorem AZ_ (Sy : TypeId) {sl : List (Nat × D)} {hp : List (Nat × Ob)} {dk : List Nat} {t : Nat} {T tn : TypeId} {x y : Operand} {ty : TypeId} {pos : String} {after : Array Edge} {gd : Option (Nat × Bool)} {g : Prop} {dx : D} {k : Int} {o m γ : Nat} {c : Cont} {R : List Nat} (hE : Env C Ti G n)
    (hk : RG C ops W (([o], R) :: acc) rest s2 K)
    (hx : frc (evg G ⟨sl, hp, dk⟩ x) = some dx := by exact rfl) (hy : frc (evg G ⟨sl, hp, dk⟩ y) = some (.int .i64 k) := by exact rfl)
    (hc : gcO ops ⟨sl, hp, dk⟩ gd = .yes := by exact rfl) (hb : dstB n (some t) = true := by exact rfl) (e : apzD Ti (⟨sl, hp, dk⟩ : St).ob T tn Sy dx k = some (g, o, c, m, R) := by exact rfl) (hg : g := by exact sg_)
    (hγ : ((⟨sl, hp, dk⟩ : St).ob o).sh.gen + 1 = γ := by exact nc_)
    (hs : (⟨(t, .sl o γ 0 m) :: sl, (o, ⟨⟨γ, 1, c.len⟩, some c⟩) :: hp, dk⟩ : St) = s2 := by exact nr_) : RG C ops W acc (⟨some t, .call { callee := .builtin .append, args := #[x, y], argTypes := #[T, tn] }, ty, pos, after, gd⟩ :: rest) ⟨sl, hp, dk⟩ K := by
  subst hγ
  subst hs
  intro M hM hW hend
  have hx' := frc_ok hx
  have hy' := frc_ok hy
  rw [← hE.g, ← ev_g] at hx' hy'
  rw [← hE.ti] at e
  rw [← hx'] at e
  refine hM.step _ _ _ _ _ [(o, nob ⟨sl, hp, dk⟩ o 1 c)] R (effG_yes (o := ⟨some t, _, ty, pos, after, gd⟩) hc ((eff_apz T tn Sy x y hy' e hg (dstB_ok hE hb)).weak ?_ (fun _ h => h))) (hk M hM hW hend)
  intro z hz
  simp only [opsT, Op.operands, Call.operands, List.mem_flatMap] at hz ⊢
  rcases List.mem_append.1 hz with hz | hz
  · exact ⟨x, by simp, hz⟩
  · exact ⟨y, by simp, hz⟩
/-- A cell that is a nil slice owns no bytes. -/
theorem knilc {C : Ctx} {sl : List (Nat × D)} {hp : List (Nat × Ob)} {dk : List Nat} (o i : Nat) {sh : Sh} {cs cs' : List D} (ho : (⟨sl, hp, dk⟩ : St).ob o = ⟨sh, some (.cells cs)⟩) (hi : cs[i]? = some .nilS) (hcs : cs.set i (.ownb []) = cs') :
    Wk C ⟨sl, hp, dk⟩ ⟨sl, (o, ⟨sh, some (.cells cs')⟩) :: hp, dk⟩ := by
  subst hcs
  rintro a w ⟨h1, h2, ρ, S, Φ, h3, h4⟩
  have hct : ((⟨sl, hp, dk⟩ : St).ob o).ct = some (.cells cs) := by rw [ho]
  have hsh : (⟨sl, hp, dk⟩ : St).sh o = sh := by unfold St.sh; rw [ho]
  obtain ⟨q1, q2⟩ := h3.ob o _ hct
  have hil : i < cs.length := (List.getElem?_eq_some_iff.1 hi).1
  obtain ⟨k1, k2⟩ := h3.one (w' := w) o ⟨sh, some (.cells (cs.set i (.ownb [])))⟩ (ρ o) (Φ o) rfl rfl rfl (Nat.le_refl _) (Szs.refl w) (.inr ⟨hsh.symm, rfl⟩) (fun _ _ _ => rfl) (fun c' hc' => by
    have e : Cont.cells (cs.set i (.ownb [])) = c' := by simpa using hc'
    subst e
    rw [upd_self]
    have e2 : upd (⟨sl, hp, dk⟩ : St).sh o (⟨sh, some (.cells (cs.set i (.ownb [])))⟩ : Ob).sh = (⟨sl, hp, dk⟩ : St).sh := by
      show upd _ o sh = _
      rw [← hsh]; exact upd_self _ o
    rw [e2]
    rw [hsh] at q1
    refine ⟨by simpa [Cont.len] using q1, ?_⟩
    rcases q2 with ⟨z1, z2, z3⟩ | ⟨cur, E, fz, Fs, hh, hz, hs, hb, hF, hfl, hc⟩
    · exact .inl ⟨by simpa [Cont.len] using z1, z2, z3⟩
    · refine .inr ⟨cur, E, fz, Fs, hh, hz, hs, by simpa [Cont.len] using hb, hF, by simpa using hfl, fun j c u f p1 p2 p3 => ?_⟩
      rw [List.getElem?_set] at p1
      by_cases hij : i = j
      · subst hij
        rw [if_pos rfl, if_pos hil] at p1
        injection p1 with p1
        subst p1
        have hv := hc i _ u f hi p2 p3
        cases hv
        exact .ownb [] _ _ _ [] #[] 0 rfl ⟨Nat.le_refl _, by simp [maxLen], .inl ⟨rfl, rfl, rfl⟩⟩ (fun i hi => absurd hi (by omega))
      · rw [if_neg hij] at p1
        exact hc j c u f p1 p2 p3) (fun _ => ⟨(h3.own o _ hct).1, fun b hb => ⟨((h3.own o _ hct).2 b hb).1, ((h3.own o _ hct).2 b hb).2.1, ((h3.own o _ hct).2 b hb).2.2.1, ((h3.own o _ hct).2 b hb).2.2.2, fun o' c' hne hc' => h3.dis o o' _ c' hct hc' (Ne.symm hne) b hb⟩⟩)
  rw [upd_self, upd_self] at k1
  rw [upd_self] at k2
  exact ⟨h1, h2, ρ, S, Φ, k1, fun t => k2 _ _ (h4 t)⟩
end
end Go.Proofs.YtocfhkmdkdjinaaDoor
