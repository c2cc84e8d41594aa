/- What the claim leans on, text Zuf: Frz. No condition beyond what each lemma states. -/
import Derived.Test.YtocfhkmdkdjinaaDoorZrd

/- A contract that takes rows whose bytes are read only serves for rows that own them too. Over any program. -/
namespace Go.Proofs.YtocfhkmdkdjinaaDoor
open Go Go.RowKit
set_option linter.unusedVariables false
set_option linter.unusedSimpArgs false
section
variable {w : World} {S : Nat → Prop} {ρ : Nat → Pl} {H : Nat → Sh}
theorem fz_owns {s n : Nat} {cs : List D} {v : Value} {F : List Nat} (hc : cs.all D.fr0 = true) (h : RV w S ρ H (.owns s n cs) v F) (hn : F.Nodup) :
    ∃ F', (∀ b ∈ F', b ∈ F) ∧ F'.Nodup ∧ RV w (fun b => S b ∨ (b ∈ F ∧ b ∉ F')) ρ H (.owns s n (cs.map frz)) v F' := by
  cases h with
  | owns _ _ _ A cap _ F0 Fs cur off hl hrow hf hF hr =>
    subst hF
    have hn' := List.nodup_append.1 hn
    refine ⟨F0, fun b hb => List.mem_append_left _ hb, hn'.1, .owns s n _ A cap F0 F0 (Fs.map fun _ => []) cur off (by simpa using hl) hrow (by simpa using hf) (by simp) (fun i c u f p1 p2 p3 => ?_)⟩
    rw [List.getElem?_map] at p1 p3
    obtain ⟨d, hd, rfl⟩ := Option.map_eq_some_iff.1 p1
    obtain ⟨Fi, hFi, rfl⟩ := Option.map_eq_some_iff.1 p3
    have hrv := hr i d u Fi hd p2 hFi
    have hfd : d.fr0 = true := all_get hc hd
    have hm : ∀ {d v F}, RV w S ρ H d v F → RV w (fun b => S b ∨ (b ∈ F0 ++ Fs.flatten ∧ b ∉ F0)) ρ H d v F := fun hr => hr.mono (fun _ h => .inl h) (fun _ _ => rfl) (fun _ => ⟨Nat.le_refl _, fun _ => ⟨rfl, rfl⟩⟩) (fun _ _ => rfl)
    cases d with
    | ownb l => exact rob_of_ownb hrv fun b hb => .inr ⟨List.mem_append_right _ (mem_flat_of hFi hb), fun h0 => hn'.2.2 b h0 b (mem_flat_of hFi hb) rfl⟩
    | _ => exact hm (pf1_nv (by exact hfd) hrv).2
theorem flat_pre {α : Type} : ∀ (Fs : List (List α)) (n : Nat), Fs.length = n + 1 → (∀ i, i < n → Fs[i]? = some []) → ∃ F, Fs[n]? = some F ∧ Fs.flatten = F
  | F :: Fs, 0, hl, _ => ⟨F, rfl, by
    have : Fs = [] := List.eq_nil_of_length_eq_zero (by simpa using hl)
    subst this
    simp⟩
  | F :: Fs, n + 1, hl, h => by
    have h0 := h 0 (by omega)
    simp only [List.getElem?_cons_zero, Option.some.injEq] at h0
    subst h0
    obtain ⟨F, h1, h2⟩ := flat_pre Fs n (by simpa using hl) (fun i hi => by have := h (i + 1) (by omega); simpa using this)
    exact ⟨F, by simpa using h1, by simpa using h2⟩
theorem fz_agg {pre : List D} {s n : Nat} {cs : List D} {v : Value} {F : List Nat} (hp : pre.all D.pf1 = true) (hc : cs.all D.fr0 = true) (h : RV w S ρ H (.agg (pre ++ [.owns s n cs])) v F) (hn : F.Nodup) :
    ∃ F', (∀ b ∈ F', b ∈ F) ∧ F'.Nodup ∧ RV w (fun b => S b ∨ (b ∈ F ∧ b ∉ F')) ρ H (.agg (pre ++ [.owns s n (cs.map frz)])) v F' := by
  cases h with
  | agg _ vs Fs _ hv hf hF hr =>
    simp only [List.length_append, List.length_singleton] at hv hf
    have hpre : ∀ (i : Nat) (c : D) (u : Value) (f : List Nat), i < pre.length → pre[i]? = some c → vs[i]? = some u → Fs[i]? = some f → f = [] ∧ RV w S ρ H c u [] := fun i c u f hi h1 h2 h3 => by
      have := hr i c u f (by rw [List.getElem?_append_left hi]; exact h1) h2 h3
      exact pf1_nv (all_get hp h1) this
    obtain ⟨Fl, hFl, hfl⟩ := flat_pre Fs pre.length hf (fun i hi => by
      have h3 : Fs[i]? = some Fs[i] := List.getElem?_eq_getElem (by omega)
      rw [h3, (hpre i _ _ _ hi (List.getElem?_eq_getElem hi) (List.getElem?_eq_getElem (by omega)) h3).1])
    rw [hF, hfl] at hn ⊢
    have hlast := hr pre.length (.owns s n cs) (vs[pre.length]'(by omega)) Fl (by simp) (List.getElem?_eq_getElem (by omega)) hFl
    obtain ⟨F', q1, q2, q3⟩ := fz_owns hc hlast hn
    refine ⟨F', q1, q2, .agg _ vs (List.replicate pre.length [] ++ [F']) F' (by simpa using hv) (by simp) (by simp) (fun i c u f h1 h2 h3 => ?_)⟩
    by_cases hi : i < pre.length
    · rw [List.getElem?_append_left hi] at h1
      rw [List.getElem?_append_left (by simpa using hi), List.getElem?_replicate, if_pos hi] at h3
      injection h3 with h3
      subst h3
      exact (hpre i c u _ hi h1 h2 (List.getElem?_eq_getElem (by omega))).2.mono (fun _ h => .inl h) (fun _ _ => rfl) (fun _ => ⟨Nat.le_refl _, fun _ => ⟨rfl, rfl⟩⟩) (fun _ _ => rfl)
    · have hi2 : i = pre.length := by
        have := (List.getElem?_eq_some_iff.1 h1).1
        simp at this
        omega
      subst hi2
      simp at h1 h3
      subst h1; subst h3
      rw [List.getElem?_eq_getElem (by omega)] at h2
      injection h2 with h2
      subst h2
      exact q3
end
/-- Taken as if its rows' bytes were read only. -/
theorem FC.frzA {P : Program} {G : Nat → Option D} {f : Nat} {pre : List D} {s n : Nat} {cs : List D} {ds : List D} {res : D} (hp : pre.all D.pf1 = true) (hc : cs.all D.fr0 = true) (h : FC P G f (.agg (pre ++ [.owns s n (cs.map frz)]) :: ds) res none) : FC P G f (.agg (pre ++ [.owns s n cs]) :: ds) res none := by
  intro w S vs Fs hS hG hl hf hrv hnd hdis
  match vs, Fs, hl, hf with
  | v0 :: vr, F0 :: Fr, hl, hf =>
  have h0 := hrv 0 _ v0 F0 rfl rfl rfl
  rw [List.flatten_cons] at hnd hdis
  have hn := List.nodup_append.1 hnd
  obtain ⟨F', q1, q2, q3⟩ := fz_agg hp hc h0 hn.1
  have hrows := h0.rows
  have hm : ∀ {d v F}, NV w S d v F → NV w (fun b => S b ∨ (b ∈ F0 ∧ b ∉ F')) d v F := fun {d v F} hr => (show RV w S ρ0 H0 d v F from hr).mono (fun _ h => .inl h) (fun _ _ => rfl) (fun _ => ⟨Nat.le_refl _, fun _ => ⟨rfl, rfl⟩⟩) (fun _ _ => rfl)
  refine (h w (fun b => S b ∨ (b ∈ F0 ∧ b ∉ F')) (v0 :: vr) (F' :: Fr) (fun b hb => ?_) (fun g c hg => hm (hG g c hg)) (by simpa using hl) (by simpa using hf) (fun i d v F p1 p2 p3 => ?_) ?_ ?_).mono ?_
  · rcases hb with hb | hb
    · exact hS b hb
    · exact hrows b hb.1
  · rcases i with _ | i
    · simp at p1 p2 p3
      subst p1; subst p2; subst p3
      exact q3
    · exact hm (hrv (i + 1) d v F (by simpa using p1) (by simpa using p2) (by simpa using p3))
  · rw [List.flatten_cons]
    exact List.nodup_append.2 ⟨q2, hn.2.1, fun a ha b hb => hn.2.2 a (q1 a ha) b hb⟩
  · intro b hb
    rw [List.flatten_cons] at hb
    rcases List.mem_append.1 hb with hb | hb
    · have h1 := hdis b (List.mem_append_left _ (q1 b hb))
      exact ⟨fun h => by rcases h with h | h; exact h1.1 h; exact h.2 hb, h1.2⟩
    · have h1 := hdis b (List.mem_append_right _ hb)
      exact ⟨fun h => by rcases h with h | h; exact h1.1 h; exact hn.2.2 b h.1 b hb rfl, h1.2⟩
  · rintro e w' ⟨v, F, Fo, S', r1, r2, r3, r4, r5, r6, r7, r8, r9, r10, r11, r12, r13, r14⟩
    have hsub : ∀ b, b ∈ F' ++ Fr.flatten → b ∈ F0 ++ Fr.flatten := fun b hb => by
      rcases List.mem_append.1 hb with hb | hb
      · exact List.mem_append_left _ (q1 b hb)
      · exact List.mem_append_right _ hb
    refine ⟨v, F, Fo, S', r1, r2, r3, r4, r5, r6, fun b hb hnb => r7 b hb (fun h => hnb ?_), fun b hb => r8 b (.inl hb), fun b hb => ?_, r10, r11, r12, r13, fun b hb => ?_⟩
    · rw [List.flatten_cons] at h ⊢; exact hsub b h
    · obtain ⟨t1, t2⟩ := r9 b hb
      refine ⟨t1, ?_⟩
      rw [List.flatten_cons] at t2 ⊢
      rcases t2 with (t2 | t2) | t2 | t2
      · exact .inl t2
      · exact .inr (.inr (List.mem_append_left _ t2.1))
      · exact .inr (.inl t2)
      · exact .inr (.inr (hsub b t2))
    · obtain ⟨t1, t2, t3⟩ := r14 b hb
      refine ⟨t1, t2, ?_⟩
      rw [List.flatten_cons] at t3 ⊢
      rcases t3 with t3 | t3
      · exact .inl t3
      · exact .inr (hsub b t3)
/-- A packet's arguments, its rows handed over. -/
theorem ma4_ {s : St} {d d2 : D} {own fro : List Nat} (h : Mat s d d2 own fro := by (repeat' (first | exact .tnil | apply mcf rfl | exact mat_eq rfl rfl | apply Mat.agg | exact mat_n2 | exact mat_r2 rfl rfl rfl rfl | exact mat_s2 rfl rfl rfl rfl | (apply mat_slf rfl rfl rfl rfl <;> first | rfl | exact atR_len _ | exact atO_len _ | exact atS_len _ | exact atR_fr _ | exact atO_fr _ | exact atS_fr _ | omega) | apply mat_i | apply mat_bl | apply mat_u8 | apply mat_st | apply mat_ab | apply mat_rbe | apply mat_nrb | (apply mat_r0 rfl rfl rfl <;> first | rfl | (simp <;> fail) | (simp; omega) | omega) | apply mat_rb rfl rfl rfl | apply mc)) <;> first | rfl | assumption | (simp <;> fail) | omega | (simp [List.take_of_length_le] <;> fail)) : Mat s d d2 own fro := h
end Go.Proofs.YtocfhkmdkdjinaaDoor
