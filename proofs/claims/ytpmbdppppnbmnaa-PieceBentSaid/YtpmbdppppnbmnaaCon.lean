/- Contracts of functions, without names; how a call's answer is taken in. Over any program. -/
import Derived.Test.YtpmbdppppnbmnaaMat
namespace Go.Proofs.Ytpmbdppppnbmnaa
open Go Go.RowKit
set_option linter.unusedVariables false
set_option linter.unusedSimpArgs false

/-- A value without names is taken in: what it owns becomes an object. -/
def adopt1 (s : St) (t : Nat) (d : D) : D × St :=
  match d with
  | .ownb l => (.sl t ((s.sh t).gen + 1) 0 l.length, s.lay1 t 1 (.bytes l))
  | .owns e n cs => (.sl t ((s.sh t).gen + 1) 0 n, s.lay1 t e (.cells cs))
  | .ownp cs => (.ptr t ((s.sh t).gen + 1) 0, s.lay1 t 1 (.cells cs))
  | d => (d, s)
def adoptL (s : St) (t : Nat) : List D → List D × St
  | [] => ([], s)
  | d :: ds => ((adopt1 s t d).1 :: (adoptL (adopt1 s t d).2 (t + 1000) ds).1, (adoptL (adopt1 s t d).2 (t + 1000) ds).2)
def adopt (s : St) (t : Nat) (d : D) : D × St :=
  match d with
  | .tup ds => (.tup (adoptL s t ds).1, (adoptL s t ds).2)
  | d => adopt1 s t d
def D.ad1 : D → Bool
  | .ownb _ => true
  | .owns _ _ cs => cs.all D.fr0
  | .ownp cs => cs.all D.fr0
  | d => d.pf
def D.ad : D → Bool
  | .tup ds => ds.all D.ad1
  | d => d.ad1

/-- Blocks that belong to no object yet. -/
def Aside (C : Ctx) (s : St) (S : Nat → Prop) (Φ : Nat → List Nat) (w : World) (X : List Nat) : Prop :=
  X.Nodup ∧ ∀ b ∈ X, ¬ S b ∧ b < w.heap.size ∧ (C.w0.heap.size ≤ b ∨ b ∈ C.M) ∧ b ∉ s.dk ∧ ∀ o c, (s.ob o).ct = some c → b ∉ Φ o

section
variable {C : Ctx} {s : St} {ρ : Nat → Pl} {S : Nat → Prop} {Φ : Nat → List Nat} {w : World}
/-- An object is laid over blocks that are there. -/
theorem lay_there (h : RepW C s ρ S Φ w) (t esz : Nat) (c : Cont) {F X : List Nat} (hx : Aside C s S Φ w (F ++ X)) (p : Pl) (hob : ObR w S (upd ρ t p) (s.lay1 t esz c).sh p ⟨(s.sh t).gen + 1, esz, c.len⟩ c F) :
    RepW C (s.lay1 t esz c) (upd ρ t p) S (upd Φ t F) w ∧ (∀ d v, RV w S ρ s.sh d v [] → RV w S (upd ρ t p) (s.lay1 t esz c).sh d v []) ∧ Aside C (s.lay1 t esz c) S (upd Φ t F) w X := by
  obtain ⟨hn, hx⟩ := hx
  have hn' := List.nodup_append.1 hn
  have hsh : (s.lay1 t esz c).sh = upd s.sh t (s.nxt t esz c).sh := by unfold St.lay1; rw [St.sh_lay]
  rw [hsh] at hob
  have hone := h.one (w' := w) t (s.nxt t esz c) p F rfl rfl rfl (Nat.le_refl _) (Szs.refl w) (.inl (by simp [St.nxt])) (fun _ _ _ => rfl) (fun c' hc' => by
    have e : c = c' := by simpa [St.nxt] using hc'
    subst e
    exact hob) (fun _ => ⟨hn'.1, fun b hb => by
    obtain ⟨q1, q2, q3, q4, q5⟩ := hx b (List.mem_append_left _ hb)
    exact ⟨q1, q2, q3, q4, fun o c _ hc => q5 o c hc⟩⟩)
  refine ⟨hone.1, hone.2, hn'.2.1, fun b hb => ?_⟩
  obtain ⟨q1, q2, q3, q4, q5⟩ := hx b (List.mem_append_right _ hb)
  refine ⟨q1, q2, q3, q4, fun o c' hc' => ?_⟩
  by_cases ho : o = t
  · subst ho
    rw [upd_same]
    exact fun hm => hn'.2.2 b hm b hb rfl
  · rw [upd_other _ _ _ ho]
    refine q5 o c' ?_
    unfold St.lay1 at hc'
    rw [St.ob_lay, if_neg ho] at hc'
    exact hc'
theorem lay1_sh (t esz : Nat) (c : Cont) : (s.lay1 t esz c).sh t = ⟨(s.sh t).gen + 1, esz, c.len⟩ := by
  unfold St.lay1
  rw [St.sh_lay, upd_same]
  rfl
theorem nv_in {d : D} {v : Value} {F : List Nat} (hd : d.fr0 = true) (h : RV w S ρ0 H0 d v F) {ρ' : Nat → Pl} {H' : Nat → Sh} : RV w S ρ' H' d v F := fr0_nv hd h

theorem adopt1_ok (h : RepW C s ρ S Φ w) (t : Nat) {d : D} (hd : d.ad1 = true) {v : Value} {F X : List Nat} (hx : Aside C s S Φ w (F ++ X)) (hv : NV w S d v F) :
    ∃ ρ' Φ', RepW C (adopt1 s t d).2 ρ' S Φ' w ∧ (∀ e u, RV w S ρ s.sh e u [] → RV w S ρ' (adopt1 s t d).2.sh e u []) ∧ RV w S ρ' (adopt1 s t d).2.sh (adopt1 s t d).1 v [] ∧ Aside C (adopt1 s t d).2 S Φ' w X := by
  have triv : d.pf = true → adopt1 s t d = (d, s) → ∃ ρ' Φ', RepW C (adopt1 s t d).2 ρ' S Φ' w ∧ (∀ e u, RV w S ρ s.sh e u [] → RV w S ρ' (adopt1 s t d).2.sh e u []) ∧ RV w S ρ' (adopt1 s t d).2.sh (adopt1 s t d).1 v [] ∧ Aside C (adopt1 s t d).2 S Φ' w X := by
    intro hp e
    rw [e]
    obtain ⟨h1, h2⟩ := pf_nv (ρ' := ρ) (H' := s.sh) hp hv
    subst h1
    exact ⟨ρ, Φ, h, fun _ _ h => h, h2, by simpa using hx⟩
  cases d with
  | ownb l =>
    cases hv with
    | ownb _ A n cap F cur off hl hrow hc =>
      obtain ⟨r1, r2, r3⟩ := hrow
      rcases r3 with ⟨r3, r4, r5⟩ | ⟨b, E, fz, r5, rA, rh, rz, rfit⟩
      · subst r5
        obtain ⟨k1, k2, k3⟩ := lay_there h t 1 (.bytes l) hx ⟨0, 0, 0⟩ ⟨rfl, .inl ⟨by show l.length = 0; omega, rfl, rfl⟩⟩
        exact ⟨_, _, k1, k2, .sl _ _ _ _ _ rfl (by show _ ≤ ((s.lay1 t 1 (.bytes l)).sh t).gen; rw [lay1_sh]; exact Nat.le_refl _) (fun _ => ⟨A, cap, by rw [hl], by rw [hl]; exact r1, r2, by show 0 + _ ≤ ((s.lay1 t 1 (.bytes l)).sh t).clen; rw [show (adopt1 s t (.ownb l)).2 = s.lay1 t 1 (.bytes l) from rfl, lay1_sh]; simp [Cont.len], .inl ⟨by omega, r4⟩⟩), k3⟩
      · subst r5
        obtain ⟨k1, k2, k3⟩ := lay_there h t 1 (.bytes l) hx ⟨b, off, cur.size⟩ ⟨rfl, .inr ⟨cur, E, fz, [], rh, rz, rfl, by simp [Cont.len]; omega, rfl, rfl, fun i hi => hc i (by omega)⟩⟩
        subst rA
        subst hl
        exact ⟨_, _, k1, k2, lay_sl t 1 (.bytes l) ⟨b, off, cur.size⟩ l.length cap r1 r2 (by simp [Cont.len]) rfit, k3⟩
  | owns e n cs =>
    cases hv with
    | owns _ _ _ A cap F F0 Fs cur off hl hrow hf hF hr =>
      obtain ⟨r1, r2, r3⟩ := hrow
      rcases r3 with ⟨r3, r4, r5⟩ | ⟨b, E, fz, r5, rA, rh, rz, rfit⟩
      · have hc0 : cs = [] := List.eq_nil_of_length_eq_zero (by rw [hl, r3, Nat.zero_mul])
        subst hc0
        have hFs : Fs = [] := List.eq_nil_of_length_eq_zero hf
        subst hFs
        subst r5
        subst hF
        obtain ⟨k1, k2, k3⟩ := lay_there h t e (.cells []) hx ⟨0, 0, 0⟩ ⟨rfl, .inl ⟨rfl, rfl, rfl⟩⟩
        exact ⟨_, _, k1, k2, .sl _ _ _ _ _ rfl (by show _ ≤ ((s.lay1 t e (.cells [])).sh t).gen; rw [lay1_sh]; exact Nat.le_refl _) (fun _ => ⟨A, cap, rfl, by omega, r2, by rw [r3]; simp, .inl ⟨r3, r4⟩⟩), k3⟩
      · subst r5
        subst hF
        obtain ⟨k1, k2, k3⟩ := lay_there h t e (.cells cs) hx ⟨b, off, cur.size⟩ ⟨rfl, .inr ⟨cur, E, fz, Fs, rh, rz, rfl, by simp only [Cont.len]; have := Nat.mul_le_mul_right e r1; omega, rfl, hf, fun i c u f p1 p2 p3 => nv_in (all_get hd p1) (hr i c u f p1 p2 p3)⟩⟩
        subst rA
        exact ⟨_, _, k1, k2, lay_sl t e (.cells cs) ⟨b, off, cur.size⟩ n cap r1 r2 (by simp [Cont.len, hl]) rfit, k3⟩
  | ownp cs =>
    cases hv with
    | ownp _ b base cur E fz F Fs hh hz hs hf hF hr =>
      subst hF
      obtain ⟨k1, k2, k3⟩ := lay_there h t 1 (.cells cs) hx ⟨b, base, cur.size⟩ ⟨rfl, .inr ⟨cur, E, fz, Fs, hh, hz, rfl, hs, rfl, hf, fun i c u f p1 p2 p3 => nv_in (all_get hd p1) (hr i c u f p1 p2 p3)⟩⟩
      exact ⟨_, _, k1, k2, lay_ptr t 1 (.cells cs) ⟨b, base, cur.size⟩ 0, k3⟩
  | _ => exact triv hd rfl
theorem aside_nil : Aside C s S Φ w [] := ⟨by simp, by simp⟩
theorem adoptL_ok : ∀ (ds : List D) (s : St) (ρ : Nat → Pl) (Φ : Nat → List Nat) (t : Nat) (vs : List Value) (Fs : List (List Nat)) (X : List Nat), RepW C s ρ S Φ w → ds.all D.ad1 = true → vs.length = ds.length → Fs.length = ds.length → Aside C s S Φ w (Fs.flatten ++ X) →
    (∀ (i : Nat) (d : D) (v : Value) (F : List Nat), ds[i]? = some d → vs[i]? = some v → Fs[i]? = some F → NV w S d v F) →
    ∃ ρ' Φ', RepW C (adoptL s t ds).2 ρ' S Φ' w ∧ (∀ e u, RV w S ρ s.sh e u [] → RV w S ρ' (adoptL s t ds).2.sh e u []) ∧ PR w S ρ' (adoptL s t ds).2.sh (adoptL s t ds).1 vs ∧ Aside C (adoptL s t ds).2 S Φ' w X
  | [], s, ρ, Φ, t, vs, Fs, X, h, hd, hv, hf, hx, hr => by
    have : vs = [] := List.eq_nil_of_length_eq_zero hv
    subst this
    have : Fs = [] := List.eq_nil_of_length_eq_zero hf
    subst this
    exact ⟨ρ, Φ, h, fun _ _ h => h, PR.nil, hx⟩
  | d :: ds, s, ρ, Φ, t, vs, Fs, X, h, hd, hv, hf, hx, hr => by
    rcases vs with _ | ⟨v, vs⟩
    · simp at hv
    rcases Fs with _ | ⟨F, Fs⟩
    · simp at hf
    simp only [List.all_cons, Bool.and_eq_true] at hd
    obtain ⟨ρ1, Φ1, k1, k2, k3, k4⟩ := adopt1_ok h t hd.1 (F := F) (X := Fs.flatten ++ X) (by rw [List.flatten_cons, List.append_assoc] at hx; exact hx) (hr 0 d v F rfl rfl rfl)
    obtain ⟨ρ2, Φ2, j1, j2, j3, j4⟩ := adoptL_ok ds (adopt1 s t d).2 ρ1 Φ1 (t + 1000) vs Fs X k1 hd.2 (by simpa using hv) (by simpa using hf) k4 (fun i d v F p1 p2 p3 => hr (i + 1) d v F (by simpa using p1) (by simpa using p2) (by simpa using p3))
    refine ⟨ρ2, Φ2, j1, fun d v h => j2 d v (k2 d v h), ⟨by simp [adoptL, j3.1], fun i c u p1 p2 => ?_⟩, j4⟩
    rcases i with _ | i
    · simp only [adoptL, List.getElem?_cons_zero, Option.some.injEq] at p1 p2
      subst p1; subst p2
      exact j2 _ _ k3
    · exact j3.2 i c u (by simpa [adoptL] using p1) (by simpa using p2)
theorem adopt_ok (h : RepW C s ρ S Φ w) (t : Nat) {d : D} (hd : d.ad = true) {v : Value} {F X : List Nat} (hx : Aside C s S Φ w (F ++ X)) (hv : NV w S d v F) :
    ∃ ρ' Φ', RepW C (adopt s t d).2 ρ' S Φ' w ∧ (∀ e u, RV w S ρ s.sh e u [] → RV w S ρ' (adopt s t d).2.sh e u []) ∧ RV w S ρ' (adopt s t d).2.sh (adopt s t d).1 v [] ∧ Aside C (adopt s t d).2 S Φ' w X := by
  by_cases ht : ∃ ds, d = .tup ds
  · obtain ⟨ds, rfl⟩ := ht
    obtain ⟨vs, Fs, rfl, q1, q2, rfl, q4⟩ := nv_tup hv
    obtain ⟨ρ', Φ', k1, k2, k3, k4⟩ := adoptL_ok ds s ρ Φ t vs Fs X h hd q1 q2 hx q4
    exact ⟨ρ', Φ', k1, k2, k3.tup, k4⟩
  · obtain ⟨e1, e2⟩ : d.ad = d.ad1 ∧ adopt s t d = adopt1 s t d := by cases d <;> first | exact ⟨rfl, rfl⟩ | exact absurd ⟨_, rfl⟩ ht
    rw [e1] at hd
    rw [e2]
    exact adopt1_ok h t hd hx hv
end
end Go.Proofs.Ytpmbdppppnbmnaa
