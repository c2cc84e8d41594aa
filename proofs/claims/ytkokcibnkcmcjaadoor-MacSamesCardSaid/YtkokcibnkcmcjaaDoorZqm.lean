/- What the claim leans on, text Zqm: Apk. No condition beyond what each lemma states. -/
import Derived.Test.YtkokcibnkcmcjaaDoorZd

/- append whose elder slice is used on: the row keeps what it holds; of what append gives only the length is known. Over any program. -/
namespace Go.Proofs.YtkokcibnkcmcjaaDoor
open Go Go.RowKit
set_option linter.unusedVariables false
set_option linter.unusedSimpArgs false

/-- The object, the bytes that it holds, how many there will be. -/
def apkD (Ti : Nat → TI) (O : Nat → Ob) (T T2 : TypeId) (x y : D) : Option (Prop × Nat × List UInt8 × Nat × List Nat) :=
  match (Ti T).ty, bsrc Ti O T2 y with
  | .slice e, some (gy, yl, Ry) =>
    match x with
    | .sl o g 0 len =>
      match (O o).ct with
      | some (.bytes l) => some ((gy ∧ g = (O o).sh.gen ∧ (O o).sh.esz = 1 ∧ len = l.length ∧ (Ti e).zero = .u8 0 ∧ (Ti e).sz = 1 ∧ (Ti e).by_ = 1 ∧ len + bytN y ≤ 140737488355328), o, l, len + bytN y, o :: Ry)
      | _ => none
    | _ => none
  | _, _ => none
section
variable {C : Ctx} {s : St} {ρ : Nat → Pl} {S : Nat → Prop} {Φ : Nat → List Nat} {w : World}
theorem apk_ok (h : RepW C s ρ S Φ w) {T T2 ty : TypeId} {x y : D} {g : Prop} {o : Nat} {l : List UInt8} {n : Nat} {R : List Nat} (e : apkD (tiOf C.P) s.ob T T2 x y = some (g, o, l, n, R)) (hg : g) {vx vy : Value} (hx : RV w S ρ s.sh x vx []) (hy : RV w S ρ s.sh y vy []) :
    Outc C s S ρ w ((Builtin.append_ #[T, T2] ty #[vx, vy]).run C.P w) (s.lay o ⟨s.sh o, some (.bytes l)⟩) (.lsl n) := by
  unfold apkD at e
  split at e
  · rename_i el gy yl Ry ht hb
    split at e
    · rename_i o' g' len
      split at e
      · rename_i l' ho
        injection e with e; injection e with e1 e2; injection e2 with e2 e3; injection e3 with e3 e4; injection e4 with e4 e5; subst e1; subst e2; subst e3; subst e4
        obtain ⟨g1, gg, ge, gl, g2, g3, g4, g5⟩ := hg
        obtain ⟨hsrc, hn⟩ := bsrc_ok h hb g1 hy
        obtain ⟨z, hz⟩ := slTy_of (P := C.P) ht (by rw [g2]; simp) (by rw [g2, g3]; rfl) (by rw [g2]; rfl) (by omega)
        rw [g3, g4] at hz
        have hes : (s.sh o').esz = 1 := ge
        have hsl := inv_sl hx gg
        obtain ⟨A0, cap0, e0, _, _, _, hA⟩ := hsl
        obtain ⟨A, cap, rfl, hrow, hbb, hlen⟩ := h.rowb ho hes (inv_sl hx gg)
        injection e0 with e0 e0' e0''
        subst e0; subst e0''
        rw [List.drop_zero, gl, List.take_length] at hrow
        have hob := h.ob o' _ ho
        have hown := h.own o' _ ho
        subst gl
        obtain ⟨A', cap', w', hr, c1, c2, hos, htape, hout, hsz, hcase⟩ := run_append_xa (P := C.P) (w := w) (ty := ty) hz hrow hsrc (by simp [u8s]) (u8s_one yl) (by simp [maxLen]; omega) (by omega)
        have hw : ∀ k, k < w.heap.size → k ∉ Φ o' → w'.heap[k]? = w.heap[k]? := by
          intro k hk hn
          rcases hcase with ⟨_, _, e⟩ | ⟨b', off, cur, E', fz, _, _, _, _, _, ⟨_, hold⟩ | ⟨hc0, rfl, _, _, hold, _⟩⟩
          · rw [e]
          · exact hold k hk
          · exact hold k (fun e => hn (e ▸ hbb hc0))
        have hszs : Szs w w' := by
          rcases hcase with ⟨_, _, e⟩ | ⟨b', off, cur, E', fz, _, hh, _, _, _, ⟨_, hold⟩ | ⟨hc0, rfl, _, ⟨cur0, E0, fz0, q1, q2⟩, hold, _⟩⟩
          · exact Szs.same (fun b _ => by rw [e])
          · exact Szs.same hold
          · intro k c1 E1 f1 hk
            by_cases hkb : k = (ρ o').blk
            · subst hkb
              rw [q1] at hk
              injection hk with hk
              injection hk with e1 e2 e3
              subst e1
              exact ⟨cur, E', fz, hh, q2⟩
            · exact ⟨c1, E1, f1, (hold k hkb).trans hk, rfl⟩
        have hsame : upd s.sh o' (⟨s.sh o', some (.bytes l')⟩ : Ob).sh = s.sh := by
          funext x
          by_cases hxo : x = o'
          · subst hxo; rw [upd_same]
          · rw [upd_other _ _ _ hxo]
        have hsame2 : upd ρ o' (ρ o') = ρ := by
          funext x
          by_cases hxo : x = o'
          · subst hxo; rw [upd_same]
          · rw [upd_other _ _ _ hxo]
        have hobr : ∀ c', (⟨s.sh o', some (.bytes l')⟩ : Ob).ct = some c' → ObR w' S (upd ρ o' (ρ o')) (upd s.sh o' (⟨s.sh o', some (.bytes l')⟩ : Ob).sh) (ρ o') (s.sh o') c' (Φ o') := by
          intro c' hc'
          have e : Cont.bytes l' = c' := by simpa using hc'
          subst e
          rw [hsame, hsame2]
          refine ⟨hob.1, ?_⟩
          rcases hob.2 with q | ⟨cur0, E0, fz0, Fs, hh, hz0, hs, hbz, hF, hct⟩
          · exact .inl q
          · right
            have hlt : (ρ o').blk < w.heap.size := (Array.getElem?_eq_some_iff.1 hh).1
            by_cases hkeep : w'.heap[(ρ o').blk]? = w.heap[(ρ o').blk]?
            · exact ⟨cur0, E0, fz0, Fs, hkeep.trans hh, hz0, hs, hbz, hF, hct⟩
            · rcases hcase with ⟨_, _, e⟩ | ⟨b', off, cur, E', fz, hA', hh', hz', hfits, htk, ⟨_, hold⟩ | ⟨hc0, rfl, _, ⟨cur1, E1, fz1, q1, q2⟩, hold, hAA⟩⟩
              · exact absurd (by rw [e]) hkeep
              · exact absurd (hold _ hlt) hkeep
              · rw [hh] at q1
                injection q1 with q1
                injection q1 with q1 _ _
                subst q1
                have hoff : l'.length ≠ 0 → off = (ρ o').base := fun hne => by
                  rcases hA with ⟨ha, _⟩ | ⟨ha, _⟩
                  · exact absurd ha hne
                  · rw [hAA, ha] at hA'
                    injection hA' with hA'
                    injection hA' with _ hA' _
                    omega
                refine ⟨cur, E', fz, [], hh', hz', by rw [q2]; exact hs, by rw [← hs, ← q2] at hbz; rw [← hs, ← q2]; exact hbz, ?_, rfl, fun i hi => ?_⟩
                · rw [hF, hct.1]
                · have hoff := hoff (by omega)
                  have h1 : ((cur.toList.drop off).take ((l'.length + yl.length) * 1))[i]? = some (u8 (gb l' i)) := by
                    rw [htk, ← u8s_append, u8s_get, List.getElem?_append_left hi, gb_of hi]
                    rfl
                  have h2 := drop_take_get h1
                  rw [← hoff, ← Array.getElem?_toList]
                  exact h2
        obtain ⟨k1, k2⟩ := h.one (w' := w') o' ⟨s.sh o', some (.bytes l')⟩ (ρ o') (Φ o') hos htape hout hsz hszs (.inr ⟨rfl, rfl⟩) (fun b hb hn => hw b hb (hn (by rw [ho]; rfl))) hobr (fun _ => ⟨hown.1, fun b hb => by
          obtain ⟨p1, p2, p3, p4⟩ := hown.2 b hb
          exact ⟨p1, Nat.lt_of_lt_of_le p2 hsz, p3, p4, fun o c hne hc => h.dis o' o _ c ho hc (Ne.symm hne) b hb⟩⟩)
        exact ⟨_, w', _, _, hr, k1, k2, by rw [hn]; exact .lsl _ _ _ c1 c2⟩
      · cases e
    · cases e
  · cases e
theorem apkD_loc {P : Program} {O O' : Nat → Ob} {T T2 : TypeId} {x y : D} {g : Prop} {o : Nat} {l : List UInt8} {n : Nat} {R : List Nat} (e : apkD (tiOf P) O T T2 x y = some (g, o, l, n, R)) (h : ∀ o ∈ R, O' o = O o) : apkD (tiOf P) O' T T2 x y = some (g, o, l, n, R) ∧ o ∈ R := by
  unfold apkD at *
  split at e
  · rename_i el gy yl Ry ht hb
    split at e
    · rename_i o' g' len
      split at e
      · rename_i l' ho
        injection e with e; injection e with e1 e2; injection e2 with e2 e3; injection e3 with e3 e4; injection e4 with e4 e5; subst e1; subst e2; subst e3; subst e4; subst e5
        have q := h o' (by simp)
        have hb' := bsrc_loc (O' := O') hb (fun o ho => h o (by simp [ho]))
        simp only [ht, hb', q, ho]
        exact ⟨trivial, List.mem_cons_self⟩
      · cases e
    · cases e
  · cases e
variable {t : Nat} {pos : String} {after : Array Edge} {gd : Option (Nat × Bool)} {ty : TypeId}
theorem eff_apk {dst : Option Tmp} (T T2 : TypeId) (x y : Operand) {g : Prop} {o : Nat} {l : List UInt8} {n : Nat} {R : List Nat} (e : apkD (tiOf C.P) s.ob T T2 (ev C s x) (ev C s y) = some (g, o, l, n, R)) (hg : g) (hd : dstOk C.n dst) :
    Eff C ⟨dst, .call { callee := .builtin .append, args := #[x, y], argTypes := #[T, T2] }, ty, pos, after, gd⟩ s (.lsl n) [(o, ⟨(s.ob o).sh, some (.bytes l)⟩)] (opT x ++ opT y) R :=
  eff_lay hd fun σ hT hR a w ρ S Φ h1 h2 => by
    obtain ⟨q1, q2⟩ := opT2 (C := C) hT
    rw [← q1, ← q2] at e
    obtain ⟨e', ho⟩ := apkD_loc e hR
    have h := apk_ok (ty := ty) h1 e' hg (ev_rv h1 h2 x) (ev_rv h1 h2 y)
    have hs : (s.ob o).sh = σ.sh o := by unfold St.sh; rw [hR o ho]
    rw [hs]
    exact ⟨_, by simp [execOp, resolve, invoke, builtin], h⟩
variable {Ti : Nat → TI} {G : Nat → Option D} {n : Nat} {ops : Array Oper} {acc acc' : Acc} {rest rest' : List Oper} {s1 s2 : St} {K : Acc → St → Prop} {W : St → St → Prop}
/-- That operation in a region, under a guard that is met. -/
theorem AKT_ {sl : List (Nat × D)} {hp : List (Nat × Ob)} {dk : List Nat} {t : Nat} {T T2 : TypeId} {x y : Operand} {ty : TypeId} {pos : String} {after : Array Edge} {gd : Option (Nat × Bool)} {g : Prop} {dx dy : D} {o m : Nat} {l : List UInt8} {R : List Nat} {sh : Sh} {c : Bool} (hE : Env C Ti G n) (hcc : c = true)
    (hk : RG C ops W (([o], R) :: acc) rest s2 K)
    (hx : frc (evg G ⟨sl, hp, dk⟩ x) = some dx := by exact rfl) (hy : frc (evg G ⟨sl, hp, dk⟩ y) = some dy := by exact rfl)
    (hc : gcO ops ⟨sl, hp, dk⟩ gd = .on c := by exact rfl) (hb : dstB n (some t) = true := by exact rfl) (e : apkD Ti (⟨sl, hp, dk⟩ : St).ob T T2 dx dy = some (g, o, l, m, R) := by exact rfl) (hg : g := by exact sg_)
    (hsh : ((⟨sl, hp, dk⟩ : St).ob o).sh = sh := by exact nc_)
    (hs : (⟨(t, .lsl m) :: sl, (o, ⟨sh, some (.bytes l)⟩) :: hp, dk⟩ : St) = s2 := by exact nr_) : RG C ops W acc (⟨some t, .call { callee := .builtin .append, args := #[x, y], argTypes := #[T, T2] }, ty, pos, after, gd⟩ :: rest) ⟨sl, hp, dk⟩ K := by
  subst hsh
  subst hs
  intro M hM hW hend
  have hx' := frc_ok hx
  have hy' := frc_ok hy
  rw [← hE.g, ← ev_g] at hx' hy'
  rw [← hE.ti] at e
  rw [← hx', ← hy'] at e
  refine hM.step _ _ _ _ _ [(o, ⟨((⟨sl, hp, dk⟩ : St).ob o).sh, some (.bytes l)⟩)] R (effG_onT (o := ⟨some t, _, ty, pos, after, gd⟩) hc hcc ((eff_apk T T2 x y e hg (dstB_ok hE hb)).weak ?_ (fun _ h => h))) (hk M hM hW hend)
  intro z hz
  simp only [opsT, Op.operands, Call.operands, List.mem_flatMap] at hz ⊢
  rcases List.mem_append.1 hz with hz | hz
  · exact ⟨x, by simp, hz⟩
  · exact ⟨y, by simp, hz⟩
end
end Go.Proofs.YtkokcibnkcmcjaaDoor
