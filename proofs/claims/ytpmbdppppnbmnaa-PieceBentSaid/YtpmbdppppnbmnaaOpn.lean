/- A cell that owns a row becomes an object of its own, and the other way round. Over any program. -/
import Derived.Test.YtpmbdppppnbmnaaUse
namespace Go.Proofs.Ytpmbdppppnbmnaa
open Go Go.RowKit
set_option linter.unusedVariables false
set_option linter.unusedSimpArgs false

section
variable {C : Ctx} {s : St} {ρ : Nat → Pl} {S : Nat → Prop} {Φ : Nat → List Nat} {w : World}
theorem flat_set {Fs : List (List Nat)} {i : Nat} {Fi : List Nat} (h : Fs[i]? = some Fi) (b : Nat) : b ∈ (Fs.set i []).flatten → b ∈ Fs.flatten := by
  intro hb
  obtain ⟨f, hf, hb⟩ := List.mem_flatten.1 hb
  rcases List.mem_or_eq_of_mem_set hf with h1 | h1
  · exact List.mem_flatten.2 ⟨f, h1, hb⟩
  · subst h1; cases hb
theorem flat_split {Fs : List (List Nat)} {i : Nat} {Fi : List Nat} (h : Fs[i]? = some Fi) (hn : Fs.flatten.Nodup) : (Fs.set i []).flatten.Nodup ∧ Fi.Nodup ∧ ∀ b ∈ Fi, b ∉ (Fs.set i []).flatten := by
  obtain ⟨hi, e⟩ := List.getElem?_eq_some_iff.1 h
  have e1 : Fs = Fs.take i ++ Fi :: Fs.drop (i + 1) := by
    rw [← e]; simp
  have e2 : Fs.set i [] = Fs.take i ++ [] :: Fs.drop (i + 1) := by rw [List.set_eq_take_append_cons_drop, if_pos hi]
  rw [e1] at hn
  rw [e2]
  simp only [List.flatten_append, List.flatten_cons, List.nil_append] at hn ⊢
  rw [List.nodup_append] at hn
  obtain ⟨n1, n2, n3⟩ := hn
  rw [List.nodup_append] at n2
  obtain ⟨n4, n5, n6⟩ := n2
  refine ⟨List.nodup_append.2 ⟨n1, n5, fun a ha b hb => n3 a ha b (List.mem_append_right _ hb)⟩, n4, fun b hb hm => ?_⟩
  rcases List.mem_append.1 hm with hm | hm
  · exact n3 b hm b (List.mem_append_left _ hb) rfl
  · exact n6 b hb b hm rfl
/-- What becomes of a value that owns a row: the reference, the size of an element, what it holds. -/
def oref : D → Nat → Nat → D
  | .ownb l, x, g => .sl x g 0 l.length
  | .owns _ n _, x, g => .sl x g 0 n
  | .ownp _, x, g => .ptr x g 0
  | d, _, _ => d
def oesz : D → Nat
  | .owns e _ _ => e
  | _ => 1
def ocont : D → Cont
  | .ownb l => .bytes l
  | .owns _ _ cs => .cells cs
  | .ownp cs => .cells cs
  | _ => .bytes []
def D.ow : D → Bool
  | .ownb _ => true
  | .owns _ _ cs => cs.all D.fr0
  | .ownp cs => cs.all D.fr0
  | _ => false
theorem ow_fr1 {d : D} (h : d.ow = true) : d.fr1 = true := by cases d <;> first | exact h | cases h
theorem adopt_o (h : RepW C s ρ S Φ w) (t : Nat) {d : D} (hd : d.ow = true) {v : Value} {F X : List Nat} (hx : Aside C s S Φ w (F ++ X)) (hv : NV w S d v F) :
    ∃ p, RepW C (s.lay1 t (oesz d) (ocont d)) (upd ρ t p) S (upd Φ t F) w ∧ (∀ e u, RV w S ρ s.sh e u [] → RV w S (upd ρ t p) (s.lay1 t (oesz d) (ocont d)).sh e u []) ∧ RV w S (upd ρ t p) (s.lay1 t (oesz d) (ocont d)).sh (oref d t ((s.sh t).gen + 1)) v [] := by
  cases d with
  | ownb l =>
    cases hv with
    | ownb _ A n cap F cur off hl hrow hc =>
      obtain ⟨r1, r2, r3⟩ := hrow
      rcases r3 with ⟨r3, r4, r5⟩ | ⟨b, E, fz, r5, rA, rh, rz, rfit⟩
      · subst r5
        obtain ⟨k1, k2, k3⟩ := lay_there h t 1 (.bytes l) hx ⟨0, 0, 0⟩ ⟨rfl, .inl ⟨by show l.length = 0; omega, rfl, rfl⟩⟩
        exact ⟨_, k1, k2, .sl _ _ _ _ _ rfl (by show _ ≤ ((s.lay1 t 1 (.bytes l)).sh t).gen; rw [lay1_sh]; exact Nat.le_refl _) (fun _ => ⟨A, cap, by rw [hl], by rw [hl]; exact r1, r2, by show 0 + _ ≤ ((s.lay1 t 1 (.bytes l)).sh t).clen; simp [lay1_sh, Cont.len, oesz, ocont], .inl ⟨by omega, r4⟩⟩)⟩
      · subst r5
        obtain ⟨k1, k2, k3⟩ := lay_there h t 1 (.bytes l) hx ⟨b, off, cur.size⟩ ⟨rfl, .inr ⟨cur, E, fz, [], rh, rz, rfl, by simp [Cont.len]; omega, rfl, rfl, fun i hi => hc i (by omega)⟩⟩
        subst rA
        subst hl
        exact ⟨_, k1, k2, lay_sl t 1 (.bytes l) ⟨b, off, cur.size⟩ l.length cap r1 r2 (by simp [Cont.len]) rfit⟩
  | owns e n cs =>
    cases hv with
    | owns _ _ _ A cap F F0 Fs cur off hl hrow hf hF hr =>
      obtain ⟨r1, r2, r3⟩ := hrow
      rcases r3 with ⟨r3, r4, r5⟩ | ⟨b, E, fz, r5, rA, rh, rz, rfit⟩
      · have hc0 : cs = [] := List.eq_nil_of_length_eq_zero (by rw [hl, r3, Nat.zero_mul])
        subst hc0
        have hFs : Fs = [] := List.eq_nil_of_length_eq_zero hf
        subst hFs
        subst r5
        subst hF
        obtain ⟨k1, k2, k3⟩ := lay_there h t e (.cells []) hx ⟨0, 0, 0⟩ ⟨rfl, .inl ⟨rfl, rfl, rfl⟩⟩
        exact ⟨_, k1, k2, .sl _ _ _ _ _ rfl (by show _ ≤ ((s.lay1 t e (.cells [])).sh t).gen; rw [lay1_sh]; exact Nat.le_refl _) (fun _ => ⟨A, cap, rfl, by omega, r2, by rw [r3]; simp, .inl ⟨r3, r4⟩⟩)⟩
      · subst r5
        subst hF
        obtain ⟨k1, k2, k3⟩ := lay_there h t e (.cells cs) hx ⟨b, off, cur.size⟩ ⟨rfl, .inr ⟨cur, E, fz, Fs, rh, rz, rfl, by simp only [Cont.len]; have := Nat.mul_le_mul_right e r1; omega, rfl, hf, fun i c u f p1 p2 p3 => nv_in (all_get hd p1) (hr i c u f p1 p2 p3)⟩⟩
        subst rA
        exact ⟨_, k1, k2, lay_sl t e (.cells cs) ⟨b, off, cur.size⟩ n cap r1 r2 (by simp [Cont.len, hl]) rfit⟩
  | ownp cs =>
    cases hv with
    | ownp _ b base cur E fz F Fs hh hz hs hf hF hr =>
      subst hF
      obtain ⟨k1, k2, k3⟩ := lay_there h t 1 (.cells cs) hx ⟨b, base, cur.size⟩ ⟨rfl, .inr ⟨cur, E, fz, Fs, hh, hz, rfl, hs, rfl, hf, fun i c u f p1 p2 p3 => nv_in (all_get hd p1) (hr i c u f p1 p2 p3)⟩⟩
      exact ⟨_, k1, k2, lay_ptr t 1 (.cells cs) ⟨b, base, cur.size⟩ 0⟩
  | _ => cases hd
/-- A cell that owns a row becomes an object. -/
theorem wk_open (o i x : Nat) {cs : List D} {d : D} (hd : d.ow = true) (ho : (s.ob o).ct = some (.cells cs)) (hi : cs[i]? = some d) (hx : x ≠ o) :
    Wk C s ((s.lay1 x (oesz d) (ocont d)).lay o ⟨(s.ob o).sh, some (.cells (cs.set i (oref d x ((s.sh x).gen + 1))))⟩) := by
  intro a w hr
  obtain ⟨h1, h2, ρ, S, Φ, h3, h4⟩ := hr
  have hob := h3.ob o _ ho
  obtain ⟨hlen, hcase⟩ := hob
  have hic : i < cs.length := (List.getElem?_eq_some_iff.1 hi).1
  rcases hcase with ⟨h0, _⟩ | ⟨cur, E, fz, Fs, hh, hz, hs, hbz, hF, hfl, hct⟩
  · simp only [Cont.len] at h0; omega
  have hFi : ∃ Fi, Fs[i]? = some Fi := ⟨_, List.getElem?_eq_getElem (by omega)⟩
  obtain ⟨Fi, hFi⟩ := hFi
  have hcl : (Cont.cells cs).len = cs.length := rfl
  have hui : ∃ u, cur[(ρ o).base + i]? = some u := ⟨_, Array.getElem?_eq_getElem (by omega)⟩
  obtain ⟨u, hu⟩ := hui
  have hown := h3.own o _ ho
  have hnd : Fs.flatten.Nodup ∧ (ρ o).blk ∉ Fs.flatten := by
    have := hown.1
    rw [hF] at this
    exact ⟨(List.nodup_cons.1 this).2, (List.nodup_cons.1 this).1⟩
  obtain ⟨n1, n2, n3⟩ := flat_split hFi hnd.1
  have hFin : ∀ b ∈ Fi, b ∈ Fs.flatten := fun b hb => mem_flat_of hFi hb
  have hnv : NV w S d u Fi := fr1_nv (ow_fr1 hd) (hct i _ u Fi hi hu hFi)
  -- (1) nothing is known of the cell
  obtain ⟨a1, a2⟩ := h3.one (w' := w) o ⟨s.sh o, some (.cells (cs.set i .bot))⟩ (ρ o) ((ρ o).blk :: (Fs.set i []).flatten) rfl rfl rfl (Nat.le_refl _) (Szs.refl w) (.inr ⟨rfl, rfl⟩) (fun _ _ _ => rfl) (fun c hc => by
    have e : Cont.cells (cs.set i .bot) = c := by simpa using hc
    subst e
    rw [upd_self]
    have e2 : upd s.sh o (⟨s.sh o, some (.cells (cs.set i .bot))⟩ : Ob).sh = s.sh := upd_self s.sh o
    rw [e2]
    refine ⟨by simpa [Cont.len] using hlen, .inr ⟨cur, E, fz, Fs.set i [], hh, hz, hs, by simpa [Cont.len] using hbz, rfl, by simpa using hfl, fun j c u' f p1 p2 p3 => ?_⟩⟩
    rw [List.getElem?_set] at p1 p3
    by_cases hij : i = j
    · rw [if_pos hij, if_pos (by omega)] at p1 p3
      injection p1 with p1
      injection p3 with p3
      subst p1; subst p3
      exact .bot _
    · rw [if_neg hij] at p1 p3
      exact hct j c u' f p1 p2 p3) (fun _ => ⟨List.nodup_cons.2 ⟨fun hm => hnd.2 (flat_set hFi _ hm), n1⟩, fun b hb => by
    have hb' : b ∈ Φ o := by
      rw [hF]
      rcases List.mem_cons.1 hb with rfl | hb
      · simp
      · exact List.mem_cons_of_mem _ (flat_set hFi _ hb)
    exact ⟨(hown.2 b hb').1, (hown.2 b hb').2.1, (hown.2 b hb').2.2.1, (hown.2 b hb').2.2.2, fun o' c' hne hc' => h3.dis o o' _ c' ho hc' (Ne.symm hne) b hb'⟩⟩)
  rw [upd_self] at a1 a2
  have hside : Aside C (s.lay o ⟨s.sh o, some (.cells (cs.set i .bot))⟩) S (upd Φ o ((ρ o).blk :: (Fs.set i []).flatten)) w (Fi ++ []) := by
    rw [List.append_nil]
    refine ⟨n2, fun b hb => ?_⟩
    have hb' : b ∈ Φ o := by rw [hF]; exact List.mem_cons_of_mem _ (hFin b hb)
    refine ⟨(hown.2 b hb').1, (hown.2 b hb').2.1, (hown.2 b hb').2.2.1, (hown.2 b hb').2.2.2, fun o' c' hc' => ?_⟩
    by_cases ho' : o' = o
    · subst ho'
      rw [upd_same]
      intro hm
      rcases List.mem_cons.1 hm with e | hm
      · exact hnd.2 (e ▸ hFin b hb)
      · exact n3 b hb hm
    · rw [upd_other _ _ _ ho']
      rw [St.ob_lay, if_neg ho'] at hc'
      exact h3.dis o o' _ c' ho hc' (Ne.symm ho') b hb'
  -- (2) its row becomes an object
  obtain ⟨p, b1, b2, b3⟩ := adopt_o a1 x hd hside hnv
  have hox : o ≠ x := fun e => hx e.symm
  generalize hs1 : s.lay o ⟨s.sh o, some (.cells (cs.set i .bot))⟩ = s1 at *
  have hs1x : s1.sh x = s.sh x := by rw [← hs1]; unfold St.sh; rw [St.ob_lay, if_neg hx]
  have hs1o : s1.ob o = ⟨s.sh o, some (.cells (cs.set i .bot))⟩ := by rw [← hs1, St.ob_lay, if_pos rfl]
  have hob2 : (s1.lay1 x (oesz d) (ocont d)).ob o = ⟨s.sh o, some (.cells (cs.set i .bot))⟩ := by
    unfold St.lay1; rw [St.ob_lay, if_neg hox, hs1o]
  have hsh2 : (s1.lay1 x (oesz d) (ocont d)).sh o = s.sh o := by unfold St.sh; rw [hob2]; rfl
  have hct2 : ((s1.lay1 x (oesz d) (ocont d)).ob o).ct = some (.cells (cs.set i .bot)) := by rw [hob2]
  have hown2 := b1.own o _ hct2
  have hΦo : upd (upd Φ o ((ρ o).blk :: (Fs.set i []).flatten)) x Fi o = (ρ o).blk :: (Fs.set i []).flatten := by rw [upd_other _ _ _ hox, upd_same]
  have hρo : upd ρ x p o = ρ o := upd_other _ _ _ hox
  obtain ⟨q1, q2⟩ := b1.ob o _ hct2
  rw [hρo, hΦo] at q2
  rcases q2 with ⟨z, _⟩ | ⟨cur', E', fz', Fs', k1, k2, k3, k4, k5, k6, k7⟩
  · simp [Cont.len] at z; subst z; simp at hic
  rw [hh] at k1
  injection k1 with k1
  injection k1 with e1 e2 e3
  subst e1; subst e2; subst e3
  -- (3) the cell names it
  obtain ⟨d1, d2⟩ := b1.one (w' := w) o ⟨s.sh o, some (.cells (cs.set i (oref d x ((s.sh x).gen + 1))))⟩ (ρ o) ((ρ o).blk :: (Fs.set i []).flatten) rfl rfl rfl (Nat.le_refl _) (Szs.refl w) (.inr ⟨hsh2.symm, hρo.symm⟩) (fun _ _ _ => rfl) (fun c hc => by
    have e : Cont.cells (cs.set i (oref d x ((s.sh x).gen + 1))) = c := by simpa using hc
    subst e
    have e1 : upd (upd ρ x p) o (ρ o) = upd ρ x p := by
      have := upd_self (upd ρ x p) o
      rw [hρo] at this
      exact this
    have e2 : upd (s1.lay1 x (oesz d) (ocont d)).sh o (⟨s.sh o, some (.cells (cs.set i (oref d x ((s.sh x).gen + 1))))⟩ : Ob).sh = (s1.lay1 x (oesz d) (ocont d)).sh := by
      show upd _ o (s.sh o) = _
      rw [← hsh2]; exact upd_self _ o
    rw [e1, e2]
    have hlen' : (s.sh o).clen = cs.length := hlen
    refine ⟨by simpa [Cont.len] using hlen', .inr ⟨cur, E, fz, Fs', hh, hz, hs, by simpa [Cont.len] using hbz, k5, by simpa using k6, fun j c u' f p1 p2 p3 => ?_⟩⟩
    by_cases hij : i = j
    · subst hij
      have h5 := k7 i .bot u' f (by rw [List.getElem?_set, if_pos rfl, if_pos (by omega)]) p2 p3
      rw [List.getElem?_set, if_pos rfl, if_pos (by omega)] at p1
      injection p1 with p1
      subst p1
      rw [hu] at p2
      injection p2 with p2
      subst p2
      cases h5
      rw [← hs1x]
      exact b3
    · rw [List.getElem?_set, if_neg hij] at p1
      exact k7 j c u' f (by rw [List.getElem?_set, if_neg hij]; exact p1) p2 p3) (fun _ => ⟨by rw [hΦo] at hown2; exact hown2.1, fun b hb => by
    have hb' : b ∈ upd (upd Φ o ((ρ o).blk :: (Fs.set i []).flatten)) x Fi o := by rw [hΦo]; exact hb
    exact ⟨(hown2.2 b hb').1, (hown2.2 b hb').2.1, (hown2.2 b hb').2.2.1, (hown2.2 b hb').2.2.2, fun o' c' hne hc' => b1.dis o o' _ c' hct2 hc' (Ne.symm hne) b hb'⟩⟩)
  have hr3 : Rep C ((s1.lay1 x (oesz d) (ocont d)).lay o ⟨s.sh o, some (.cells (cs.set i (oref d x ((s.sh x).gen + 1))))⟩) a w :=
    ⟨by rw [← hs1]; exact h1, h2, _, S, _, d1, fun t => by
      have := d2 _ _ (b2 _ _ (a2 _ _ (h4 t)))
      rw [← hs1] at this ⊢
      exact this⟩
  refine hr3.ext (fun t => by rw [← hs1]; rfl) (fun y => ?_) (by rw [← hs1]; rfl)
  rw [St.ob_lay, St.ob_lay]
  split
  · rfl
  · rename_i hy
    unfold St.lay1
    rw [St.ob_lay, St.ob_lay]
    split
    · unfold St.nxt; rw [hs1x]
    · rw [← hs1, St.ob_lay, if_neg hy]
theorem vc_opn {sl : List (Nat × D)} {hp : List (Nat × Ob)} {dk : List Nat} {c : Code} {Q : Exit → St → Prop} (o i x : Nat) {sh : Sh} {cs cs' : List D} {d : D} {g : Nat} (hd : d.ow = true) (ho : (⟨sl, hp, dk⟩ : St).ob o = ⟨sh, some (.cells cs)⟩) (hi : cs[i]? = some d) (hx : Nat.beq x o = false)
    (hg : ((⟨sl, hp, dk⟩ : St).ob x).sh.gen = g) (hcs : cs.set i (oref d x (g + 1)) = cs') (h : VC C c ⟨sl, (o, ⟨sh, some (.cells cs')⟩) :: (x, ⟨⟨g + 1, oesz d, (ocont d).len⟩, some (ocont d)⟩) :: hp, dk⟩ Q) : VC C c ⟨sl, hp, dk⟩ Q := by
  subst hg
  subst hcs
  have hx' : x ≠ o := fun e => by subst e; simp at hx
  have := wk_open (C := C) (s := ⟨sl, hp, dk⟩) o i x hd (by rw [ho]) hi hx'
  rw [ho] at this
  exact h.weak this
theorem vc_open {sl : List (Nat × D)} {hp : List (Nat × Ob)} {dk : List Nat} {c : Code} {Q : Exit → St → Prop} (o i x : Nat) {sh : Sh} {cs cs' : List D} {l : List UInt8} {g : Nat} (ho : (⟨sl, hp, dk⟩ : St).ob o = ⟨sh, some (.cells cs)⟩) (hi : cs[i]? = some (.ownb l)) (hx : Nat.beq x o = false)
    (hg : ((⟨sl, hp, dk⟩ : St).ob x).sh.gen = g) (hcs : cs.set i (.sl x (g + 1) 0 l.length) = cs') (h : VC C c ⟨sl, (o, ⟨sh, some (.cells cs')⟩) :: (x, ⟨⟨g + 1, 1, l.length⟩, some (.bytes l)⟩) :: hp, dk⟩ Q) : VC C c ⟨sl, hp, dk⟩ Q := vc_opn o i x (d := .ownb l) rfl ho hi hx hg hcs h
theorem vc_opens {sl : List (Nat × D)} {hp : List (Nat × Ob)} {dk : List Nat} {c : Code} {Q : Exit → St → Prop} (o i x : Nat) {sh : Sh} {cs cs' cs1 : List D} {e n : Nat} {g : Nat} (ho : (⟨sl, hp, dk⟩ : St).ob o = ⟨sh, some (.cells cs)⟩) (hi : cs[i]? = some (.owns e n cs1)) (hd : cs1.all D.fr0 = true) (hx : Nat.beq x o = false)
    (hg : ((⟨sl, hp, dk⟩ : St).ob x).sh.gen = g) (hcs : cs.set i (.sl x (g + 1) 0 n) = cs') (h : VC C c ⟨sl, (o, ⟨sh, some (.cells cs')⟩) :: (x, ⟨⟨g + 1, e, cs1.length⟩, some (.cells cs1)⟩) :: hp, dk⟩ Q) : VC C c ⟨sl, hp, dk⟩ Q := vc_opn o i x (d := .owns e n cs1) hd ho hi hx hg hcs h
theorem vc_openp {sl : List (Nat × D)} {hp : List (Nat × Ob)} {dk : List Nat} {c : Code} {Q : Exit → St → Prop} (o i x : Nat) {sh : Sh} {cs cs' cs1 : List D} {g : Nat} (ho : (⟨sl, hp, dk⟩ : St).ob o = ⟨sh, some (.cells cs)⟩) (hi : cs[i]? = some (.ownp cs1)) (hd : cs1.all D.fr0 = true) (hx : Nat.beq x o = false)
    (hg : ((⟨sl, hp, dk⟩ : St).ob x).sh.gen = g) (hcs : cs.set i (.ptr x (g + 1) 0) = cs') (h : VC C c ⟨sl, (o, ⟨sh, some (.cells cs')⟩) :: (x, ⟨⟨g + 1, 1, cs1.length⟩, some (.cells cs1)⟩) :: hp, dk⟩ Q) : VC C c ⟨sl, hp, dk⟩ Q := vc_opn o i x (d := .ownp cs1) hd ho hi hx hg hcs h
theorem flat_put {Fs : List (List Nat)} {i : Nat} (h : Fs[i]? = some []) (F : List Nat) (hn : Fs.flatten.Nodup) (hF : F.Nodup) (hd : ∀ b ∈ F, b ∉ Fs.flatten) : (Fs.set i F).flatten.Nodup ∧ ∀ b ∈ (Fs.set i F).flatten, b ∈ F ∨ b ∈ Fs.flatten := by
  obtain ⟨hi, e⟩ := List.getElem?_eq_some_iff.1 h
  have e1 : Fs = Fs.take i ++ [] :: Fs.drop (i + 1) := by
    rw [← e]; simp
  have e2 : Fs.set i F = Fs.take i ++ F :: Fs.drop (i + 1) := by rw [List.set_eq_take_append_cons_drop, if_pos hi]
  have e3 : Fs.flatten = (Fs.take i).flatten ++ (Fs.drop (i + 1)).flatten := by
    conv => lhs; rw [e1]
    simp
  rw [e3] at hn hd
  rw [e2, e3]
  simp only [List.flatten_append, List.flatten_cons]
  obtain ⟨n1, n2, n3⟩ := List.nodup_append.1 hn
  refine ⟨List.nodup_append.2 ⟨n1, List.nodup_append.2 ⟨hF, n2, fun a ha b hb e => hd a ha (List.mem_append_right _ (e ▸ hb))⟩, fun a ha b hb e => ?_⟩, fun b hb => ?_⟩
  · subst e
    rcases List.mem_append.1 hb with hb | hb
    · exact hd a hb (List.mem_append_left _ ha)
    · exact n3 a ha a hb rfl
  · simp only [List.mem_append] at hb ⊢
    rcases hb with hb | hb | hb
    · exact .inr (.inl hb)
    · exact .inl hb
    · exact .inr (.inr hb)
/-- An object of bytes goes into the cell that names it. -/
def D.isR : D → Bool
  | .sl _ _ _ _ => true
  | .ptr _ _ _ => true
  | _ => false
theorem wk_close (o i x : Nat) {cs : List D} {r d : D} {cx : Cont} (ho : (s.ob o).ct = some (.cells cs)) (hi : cs[i]? = some r) (hr0 : r.isR = true) (hxc : (s.ob x).ct = some cx) (hm : Mat s r d [x] []) (hd : d.fr1 = true) (hx : x ≠ o) :
    Wk C s ((s.lay x ⟨(s.ob x).sh, none⟩).lay o ⟨(s.ob o).sh, some (.cells (cs.set i d))⟩) := by
  intro a w hr
  obtain ⟨h1, h2, ρ, S, Φ, h3, h4⟩ := hr
  obtain ⟨hlen, hcase⟩ := h3.ob o _ ho
  have hic : i < cs.length := (List.getElem?_eq_some_iff.1 hi).1
  rcases hcase with ⟨h0, _⟩ | ⟨cur, E, fz, Fs, hh, hz, hs, hbz, hF, hfl, hct⟩
  · simp only [Cont.len] at h0; omega
  have hcl : (Cont.cells cs).len = cs.length := rfl
  obtain ⟨Fi, hFi⟩ : ∃ Fi, Fs[i]? = some Fi := ⟨_, List.getElem?_eq_getElem (by omega)⟩
  obtain ⟨u, hu⟩ : ∃ u, cur[(ρ o).base + i]? = some u := ⟨_, Array.getElem?_eq_getElem (by omega)⟩
  have hrv := hct i _ u Fi hi hu hFi
  have hFi0 : Fi = [] := by cases r <;> first | (cases hrv; rfl) | cases hr0
  subst hFi0
  obtain ⟨F, k1, k2, k3⟩ := hm.sound h3 (S' := S) (fun _ h => h) (fun o ho => by cases ho) (by simp) hrv
  have hFx : ∀ b ∈ F, b ∈ Φ x := fun b hb => by
    obtain ⟨o', ho', _, hb'⟩ := k3 b hb
    obtain rfl : o' = x := by simpa using ho'
    exact hb'
  have hown := h3.own o _ ho
  have hownx := h3.own x _ hxc
  have hnd : Fs.flatten.Nodup ∧ (ρ o).blk ∉ Fs.flatten := by
    have := hown.1
    rw [hF] at this
    exact ⟨(List.nodup_cons.1 this).2, (List.nodup_cons.1 this).1⟩
  have hdisj : ∀ b ∈ F, b ∉ Φ o := fun b hb => h3.dis x o _ _ hxc ho hx b (hFx b hb)
  obtain ⟨m1, m2⟩ := flat_put hFi F hnd.1 k2 (fun b hb hm => hdisj b hb (by rw [hF]; exact List.mem_cons_of_mem _ hm))
  -- (1) the object is given up
  obtain ⟨a1, a2⟩ := h3.one (w' := w) x ⟨s.sh x, none⟩ (ρ x) [] rfl rfl rfl (Nat.le_refl _) (Szs.refl w) (.inr ⟨rfl, rfl⟩) (fun _ _ _ => rfl) (fun c' hc' => by cases hc') (fun hh => by cases hh)
  rw [upd_self] at a1 a2
  have hox : o ≠ x := fun e => hx e.symm
  have hsh1 : (s.lay x ⟨s.sh x, none⟩).sh = s.sh := by rw [St.sh_lay]; exact upd_self s.sh x
  have hob1 : (s.lay x ⟨s.sh x, none⟩).ob o = s.ob o := by rw [St.ob_lay, if_neg hox]
  -- (2) the cell owns its row
  obtain ⟨d1, d2⟩ := a1.one (w' := w) o ⟨s.sh o, some (.cells (cs.set i d))⟩ (ρ o) ((ρ o).blk :: (Fs.set i F).flatten) rfl rfl rfl (Nat.le_refl _) (Szs.refl w) (.inr ⟨by rw [hsh1], rfl⟩) (fun _ _ _ => rfl) (fun c hc => by
    have e : Cont.cells (cs.set i d) = c := by simpa using hc
    subst e
    rw [upd_self, hsh1]
    have e2 : upd s.sh o (⟨s.sh o, some (.cells (cs.set i d))⟩ : Ob).sh = s.sh := upd_self s.sh o
    rw [e2]
    refine ⟨by simpa [Cont.len] using hlen, .inr ⟨cur, E, fz, Fs.set i F, hh, hz, hs, by simpa [Cont.len] using hbz, rfl, by simpa using hfl, fun j c u' f p1 p2 p3 => ?_⟩⟩
    rw [List.getElem?_set] at p1 p3
    by_cases hij : i = j
    · rw [if_pos hij, if_pos (by omega)] at p1 p3
      injection p1 with p1
      injection p3 with p3
      subst p1; subst p3; subst hij
      rw [hu] at p2
      injection p2 with p2
      subst p2
      exact fr1_nv hd k1
    · rw [if_neg hij] at p1 p3
      exact hct j c u' f p1 p2 p3) (fun _ => ⟨List.nodup_cons.2 ⟨fun hm => by
      rcases m2 _ hm with hm | hm
      · exact hdisj _ hm (by rw [hF]; simp)
      · exact hnd.2 hm, m1⟩, fun b hb => by
    have hb' : b ∈ F ∨ b ∈ Φ o := by
      rw [hF]
      rcases List.mem_cons.1 hb with rfl | hb
      · simp
      · rcases m2 _ hb with hb | hb
        · exact .inl hb
        · exact .inr (List.mem_cons_of_mem _ hb)
    have hq : ∀ o' c', o' ≠ o → ((s.lay x ⟨s.sh x, none⟩).ob o').ct = some c' → o' ≠ x ∧ (s.ob o').ct = some c' := fun o' c' _ hc' => by
      rw [St.ob_lay] at hc'
      split at hc'
      · cases hc'
      · exact ⟨by assumption, hc'⟩
    rcases hb' with hb' | hb'
    · have := hownx.2 b (hFx b hb')
      refine ⟨this.1, this.2.1, this.2.2.1, this.2.2.2, fun o' c' hne hc' => ?_⟩
      obtain ⟨q1, q2⟩ := hq o' c' hne hc'
      rw [upd_other _ _ _ q1]
      exact h3.dis x o' _ c' hxc q2 (Ne.symm q1) b (hFx b hb')
    · have := hown.2 b hb'
      refine ⟨this.1, this.2.1, this.2.2.1, this.2.2.2, fun o' c' hne hc' => ?_⟩
      obtain ⟨q1, q2⟩ := hq o' c' hne hc'
      rw [upd_other _ _ _ q1]
      exact h3.dis o o' _ c' ho q2 (Ne.symm hne) b hb'⟩)
  refine (show Rep C ((s.lay x ⟨s.sh x, none⟩).lay o ⟨s.sh o, some (.cells (cs.set i d))⟩) a w from ⟨h1, h2, _, S, _, d1, fun t => d2 _ _ (a2 _ _ (h4 t))⟩).ext (fun t => rfl) (fun y => rfl) rfl
theorem vc_clo {sl : List (Nat × D)} {hp : List (Nat × Ob)} {dk : List Nat} {c : Code} {Q : Exit → St → Prop} (o i x : Nat) {sh shx : Sh} {cs cs' : List D} {cx : Cont} {r d : D} (ho : (⟨sl, hp, dk⟩ : St).ob o = ⟨sh, some (.cells cs)⟩) (hi : cs[i]? = some r) (hr : r.isR = true) (hx : Nat.beq x o = false)
    (hxc : (⟨sl, hp, dk⟩ : St).ob x = ⟨shx, some cx⟩) (hm : Mat ⟨sl, hp, dk⟩ r d [x] []) (hd : d.fr1 = true) (hcs : cs.set i d = cs') (h : VC C c ⟨sl, (o, ⟨sh, some (.cells cs')⟩) :: (x, ⟨shx, none⟩) :: hp, dk⟩ Q) : VC C c ⟨sl, hp, dk⟩ Q := by
  subst hcs
  have hx' : x ≠ o := fun e => by subst e; simp at hx
  have := wk_close (C := C) (s := ⟨sl, hp, dk⟩) o i x (by rw [ho]) hi hr (by rw [hxc]) hm hd hx'
  rw [ho, hxc] at this
  exact h.weak this
theorem vc_close {sl : List (Nat × D)} {hp : List (Nat × Ob)} {dk : List Nat} {c : Code} {Q : Exit → St → Prop} (o i x : Nat) {sh shx : Sh} {cs cs' : List D} {l : List UInt8} {g off len : Nat} (ho : (⟨sl, hp, dk⟩ : St).ob o = ⟨sh, some (.cells cs)⟩) (hi : cs[i]? = some (.sl x g off len)) (hx : Nat.beq x o = false)
    (hxc : (⟨sl, hp, dk⟩ : St).ob x = ⟨shx, some (.bytes l)⟩) (hg : g = shx.gen) (he : shx.esz = 1) (hcs : cs.set i (.ownb ((l.drop off).take len)) = cs') (h : VC C c ⟨sl, (o, ⟨sh, some (.cells cs')⟩) :: (x, ⟨shx, none⟩) :: hp, dk⟩ Q) : VC C c ⟨sl, hp, dk⟩ Q := by
  have hshx : (⟨sl, hp, dk⟩ : St).sh x = shx := by unfold St.sh; rw [hxc]
  exact vc_clo o i x ho hi rfl hx hxc (.sl_b x g off len l (by rw [hxc]) (by rw [hshx]; exact hg) (by rw [hshx]; exact he)) rfl hcs h
/-- Cells that own nothing but themselves, or bytes, go into the cell that names them. -/
theorem vc_closes {sl : List (Nat × D)} {hp : List (Nat × Ob)} {dk : List Nat} {c : Code} {Q : Exit → St → Prop} (o i x : Nat) {sh shx : Sh} {cs cs' cx : List D} {g len e : Nat} (ho : (⟨sl, hp, dk⟩ : St).ob o = ⟨sh, some (.cells cs)⟩) (hi : cs[i]? = some (.sl x g 0 len)) (hx : Nat.beq x o = false)
    (hxc : (⟨sl, hp, dk⟩ : St).ob x = ⟨shx, some (.cells cx)⟩) (hg : g = shx.gen) (he : shx.esz = e) (h0 : Nat.blt 0 e = true) (hl : cx.length = len * e) (hd : cx.all D.fr0 = true) (hcs : cs.set i (.owns e len cx) = cs') (h : VC C c ⟨sl, (o, ⟨sh, some (.cells cs')⟩) :: (x, ⟨shx, none⟩) :: hp, dk⟩ Q) : VC C c ⟨sl, hp, dk⟩ Q := by
  have hshx : (⟨sl, hp, dk⟩ : St).sh x = shx := by unfold St.sh; rw [hxc]
  exact vc_clo o i x ho hi rfl hx hxc (.sl_f x g len e cx (by rw [hxc]) (by rw [hshx]; exact hg) (by rw [hshx]; exact he) (by simpa [Nat.blt_eq] using h0) hl hd) hd hcs h
theorem vc_closep {sl : List (Nat × D)} {hp : List (Nat × Ob)} {dk : List Nat} {c : Code} {Q : Exit → St → Prop} (o i x : Nat) {sh shx : Sh} {cs cs' cx : List D} {g : Nat} (ho : (⟨sl, hp, dk⟩ : St).ob o = ⟨sh, some (.cells cs)⟩) (hi : cs[i]? = some (.ptr x g 0)) (hx : Nat.beq x o = false)
    (hxc : (⟨sl, hp, dk⟩ : St).ob x = ⟨shx, some (.cells cx)⟩) (hg : g = shx.gen) (h0 : Nat.blt 0 cx.length = true) (hd : cx.all D.fr0 = true) (hcs : cs.set i (.ownp cx) = cs') (h : VC C c ⟨sl, (o, ⟨sh, some (.cells cs')⟩) :: (x, ⟨shx, none⟩) :: hp, dk⟩ Q) : VC C c ⟨sl, hp, dk⟩ Q := by
  have hshx : (⟨sl, hp, dk⟩ : St).sh x = shx := by unfold St.sh; rw [hxc]
  exact vc_clo o i x ho hi rfl hx hxc (.ptr_f x g cx (by rw [hxc]) (by rw [hshx]; exact hg) hd (by simpa [Nat.blt_eq] using h0)) hd hcs h
end
/-! What is owned are rows. -/
section
variable {w w' : World} {S : Nat → Prop} {ρ : Nat → Pl} {H : Nat → Sh}
theorem RowAt.rows {A : Option Addr} {n cap s : Nat} {F : List Nat} {cur : Array Value} {off : Nat} (h : RowAt w A n cap s F cur off) : ∀ b ∈ F, ∃ cur E fz, w.heap[b]? = some (.cells cur E fz) := by
  obtain ⟨_, _, h3⟩ := h
  rcases h3 with ⟨_, _, rfl⟩ | ⟨b, E, fz, rfl, _, hh, _⟩
  · simp
  · intro b' hb'
    obtain rfl : b' = b := by simpa using hb'
    exact ⟨_, _, _, hh⟩
theorem flat_rows {Fs : List (List Nat)} {p : Nat → Prop} (h : ∀ (i : Nat) (f : List Nat), Fs[i]? = some f → ∀ b ∈ f, p b) : ∀ b ∈ Fs.flatten, p b := by
  intro b hb
  obtain ⟨f, hf, hbf⟩ := List.mem_flatten.1 hb
  obtain ⟨i, hi⟩ := List.getElem?_of_mem hf
  exact h i f hi b hbf
theorem RV.rows {d : D} {v : Value} {F : List Nat} (h : RV w S ρ H d v F) : ∀ b ∈ F, ∃ cur E fz, w.heap[b]? = some (.cells cur E fz) := by
  induction h with
  | agg cs vs Fs F hv hf hF hr ih =>
    subst hF
    exact flat_rows fun i f hi => by
      have h1 : i < Fs.length := (List.getElem?_eq_some_iff.1 hi).1
      exact ih i _ _ f (List.getElem?_eq_getElem (by omega)) (List.getElem?_eq_getElem (by omega)) hi
  | tup cs vs Fs F hv hf hF hr ih =>
    subst hF
    exact flat_rows fun i f hi => by
      have h1 : i < Fs.length := (List.getElem?_eq_some_iff.1 hi).1
      exact ih i _ _ f (List.getElem?_eq_getElem (by omega)) (List.getElem?_eq_getElem (by omega)) hi
  | ownb l A n cap F cur off hl h hc => exact h.rows
  | owns s n cs A cap F F0 Fs cur off hl h hf hF hr ih =>
    subst hF
    intro b hb
    rcases List.mem_append.1 hb with hb | hb
    · exact h.rows b hb
    · refine flat_rows (p := fun b => ∃ cur E fz, w.heap[b]? = some (.cells cur E fz)) (fun i f hi => ?_) b hb
      have h1 : i < Fs.length := (List.getElem?_eq_some_iff.1 hi).1
      rcases h with ⟨q1, q2, q3⟩
      rcases q3 with ⟨q3, _, _⟩ | ⟨b', E, fz, _, _, hh, _, hfit⟩
      · rw [hf, hl, q3, Nat.zero_mul] at h1; omega
      · have hlt : off + i < cur.size := by
          have : n * s ≤ cap * s := Nat.mul_le_mul_right s q1
          omega
        exact ih i _ _ f (List.getElem?_eq_getElem (by omega)) (Array.getElem?_eq_getElem hlt) hi
  | ownp cs b base cur E fz F Fs hh hz hs hf hF hr ih =>
    subst hF
    intro b' hb'
    rcases List.mem_cons.1 hb' with rfl | hb'
    · exact ⟨_, _, _, hh⟩
    · refine flat_rows (p := fun b => ∃ cur E fz, w.heap[b]? = some (.cells cur E fz)) (fun i f hi => ?_) b' hb'
      have h1 : i < Fs.length := (List.getElem?_eq_some_iff.1 hi).1
      exact ih i _ _ f (List.getElem?_eq_getElem (by omega)) (Array.getElem?_eq_getElem (show base + i < cur.size by omega)) hi
  | _ => simp
theorem ObR.rows {p : Pl} {h : Sh} {c : Cont} {F : List Nat} (hr : ObR w S ρ H p h c F) : ∀ b ∈ F, ∃ cur E fz, w.heap[b]? = some (.cells cur E fz) := by
  obtain ⟨_, h2⟩ := hr
  rcases h2 with ⟨_, rfl, _⟩ | ⟨cur, E, fz, Fs, hh, hz, hs, hb, rfl, hc⟩
  · simp
  · intro b' hb'
    rcases List.mem_cons.1 hb' with rfl | hb'
    · exact ⟨_, _, _, hh⟩
    · cases c with
      | bytes l => rw [hc.1] at hb'; simp at hb'
      | cells cs =>
        refine flat_rows (p := fun b => ∃ cur E fz, w.heap[b]? = some (.cells cur E fz)) (fun i f hi => ?_) b' hb'
        have h1 : i < Fs.length := (List.getElem?_eq_some_iff.1 hi).1
        have h2 : i < cs.length := by rw [← hc.1]; exact h1
        have h3 : p.base + i < cur.size := by simp only [Cont.len] at hb; omega
        exact (hc.2 i _ _ f (List.getElem?_eq_getElem h2) (Array.getElem?_eq_getElem h3) hi).rows
end


/-! Bytes that cells own are handed to the readers: nobody may change them any more. -/
def frz : D → D
  | .ownb l => .rob l
  | d => d
theorem rob_of_ownb {w : World} {S S' : Nat → Prop} {ρ : Nat → Pl} {H : Nat → Sh} {l : List UInt8} {v : Value} {F : List Nat} (h : RV w S ρ H (.ownb l) v F) (hF : ∀ b ∈ F, S' b) : RV w S' ρ H (.rob l) v [] := by
  cases h with
  | ownb _ A n cap F cur off hl hrow hc =>
    obtain ⟨r1, r2, r3⟩ := hrow
    refine .rob l A n cap ⟨hl, r1, r2, fun hn => ?_⟩
    rcases r3 with ⟨e, _⟩ | ⟨b, E, fz, rfl, rfl, hh, _⟩
    · omega
    · refine ⟨b, off, rfl, hF b (by simp), fun i hi => ?_⟩
      rw [cell_of_row w _ _ cur E fz hh]
      exact hc i hi
section
variable {C : Ctx} {s : St}
theorem wk_freeze (o : Nat) {cs : List D} (ho : (s.ob o).ct = some (.cells cs)) (hc : cs.all D.fr0 = true) : Wk C s (s.lay o ⟨(s.ob o).sh, some (.cells (cs.map frz))⟩) := by
  intro a w hr
  obtain ⟨h1, h2, ρ, S, Φ, h3, h4⟩ := hr
  obtain ⟨hlen, hcase⟩ := h3.ob o _ ho
  have hshe : (s.lay o ⟨(s.ob o).sh, some (.cells (cs.map frz))⟩).sh = s.sh := by rw [St.sh_lay]; exact upd_self s.sh o
  have hobo : (s.lay o ⟨(s.ob o).sh, some (.cells (cs.map frz))⟩).ob o = ⟨(s.ob o).sh, some (.cells (cs.map frz))⟩ := by rw [St.ob_lay, if_pos rfl]
  have hobx : ∀ x, x ≠ o → (s.lay o ⟨(s.ob o).sh, some (.cells (cs.map frz))⟩).ob x = s.ob x := fun x hx => by rw [St.ob_lay, if_neg hx]
  have hslot : ∀ t, (s.lay o ⟨(s.ob o).sh, some (.cells (cs.map frz))⟩).slot t = s.slot t := fun _ => rfl
  have hdk : (s.lay o ⟨(s.ob o).sh, some (.cells (cs.map frz))⟩).dk = s.dk := rfl
  generalize (s.lay o ⟨(s.ob o).sh, some (.cells (cs.map frz))⟩ : St) = s' at *
  have hown := h3.own o _ ho
  rcases hcase with ⟨h0, hF, hp⟩ | ⟨cur, E, fz, Fs, hh, hz, hs, hbz, hF, hfl, hct⟩
  · have hcs : cs = [] := List.eq_nil_of_length_eq_zero h0
    subst hcs
    have hob : ∀ x, s'.ob x = s.ob x := fun x => by
      by_cases hx : x = o
      · subst hx
        rw [hobo, List.map_nil, ← ho]
      · exact hobx x hx
    have hrw : RepW C s' ρ S Φ w := h3.congr hob hdk
    exact ⟨by rw [hdk]; exact h1, h2, ρ, S, Φ, hrw, fun t => by rw [hslot, hshe]; exact h4 t⟩
  · have hnd : Fs.flatten.Nodup ∧ (ρ o).blk ∉ Fs.flatten := by
      have := hown.1
      rw [hF] at this
      exact ⟨(List.nodup_cons.1 this).2, (List.nodup_cons.1 this).1⟩
    have hin : ∀ b ∈ Fs.flatten, b ∈ Φ o := fun b hb => by rw [hF]; exact List.mem_cons_of_mem _ hb
    let S' : Nat → Prop := fun b => S b ∨ b ∈ Fs.flatten
    have hSS : ∀ b, S b → S' b := fun _ h => .inl h
    have hm : ∀ {d v F}, RV w S ρ s.sh d v F → RV w S' ρ s.sh d v F := fun hr => hr.mono hSS (fun _ _ => rfl) (fun _ => ⟨Nat.le_refl _, fun _ => ⟨rfl, rfl⟩⟩) (fun _ _ => rfl)
    have hdkn : s.dk.Nodup ∧ ∀ r ∈ s.dk, C.w0.heap.size ≤ r ∧ ¬ S' r := ⟨h3.dkn.1, fun r hr => ⟨(h3.dkn.2 r hr).1, fun hb => by
      rcases hb with hb | hb
      · exact (h3.dkn.2 r hr).2 hb
      · exact (hown.2 r (hin r hb)).2.2.2 hr⟩⟩
    have hrep : RepW C s' ρ S' (upd Φ o [(ρ o).blk]) w := by
      refine ⟨h3.os, h3.tape, h3.output, h3.size, h3.szs, h3.fr, fun b hb => .inl (h3.s0 b hb), fun b hb => ?_, fun b hb => ?_, fun g c hg => by rw [hshe]; exact hm (h3.gl g c hg), fun x c hx => ?_, fun d v hv => by rw [hshe]; exact hm (h3.rv d v hv), by rw [hdk]; exact h3.dk, by rw [hdk]; exact hdkn, fun x c hx => ?_, fun x y c c' hx hy hne b hb hb' => ?_⟩
      · rcases hb with hb | hb
        · exact h3.s1 b hb
        · obtain ⟨_, q2, q3, _⟩ := hown.2 b (hin b hb)
          rcases q3 with q3 | q3
          · exact ⟨q2, .inr (.inl q3)⟩
          · exact ⟨q2, .inr (.inr q3)⟩
      · rcases hb with hb | hb
        · exact h3.sc b hb
        · exact (h3.ob o _ ho).rows b (hin b hb)
      · by_cases hxo : x = o
        · subst hxo
          rw [hobo] at hx
          have hc' : Cont.cells (cs.map frz) = c := by simpa using hx
          subst hc'
          rw [upd_same, hshe]
          refine ⟨by simpa [Cont.len] using hlen, .inr ⟨cur, E, fz, Fs.map fun _ => [], hh, hz, hs, by simpa [Cont.len] using hbz, by simp, by simpa using hfl, fun i c u f p1 p2 p3 => ?_⟩⟩
          rw [List.getElem?_map] at p1 p3
          obtain ⟨d, hd, rfl⟩ := Option.map_eq_some_iff.1 p1
          obtain ⟨Fi, hFi, rfl⟩ := Option.map_eq_some_iff.1 p3
          have hrv := hct i d u Fi hd p2 hFi
          have hfd : d.fr0 = true := all_get hc hd
          cases d with
          | ownb l => exact rob_of_ownb hrv fun b hb => .inr (mem_flat_of hFi hb)
          | _ => exact hm (pf1_nv (by exact hfd) hrv).2
        · rw [hobx x hxo] at hx
          rw [upd_other _ _ _ hxo, hshe]
          exact (h3.ob x c hx).mono hSS (fun _ _ => rfl) (fun _ => ⟨Nat.le_refl _, fun _ => ⟨rfl, rfl⟩⟩) (fun _ _ => rfl)
      · rw [hdk]
        by_cases hxo : x = o
        · subst hxo
          rw [upd_same]
          refine ⟨by simp, fun b hb => ?_⟩
          obtain rfl : b = (ρ x).blk := by simpa using hb
          obtain ⟨q1, q2⟩ := hown.2 (ρ x).blk (by rw [hF]; simp)
          exact ⟨fun h => by rcases h with h | h; exact q1 h; exact hnd.2 h, q2⟩
        · rw [hobx x hxo] at hx
          rw [upd_other _ _ _ hxo]
          refine ⟨(h3.own x c hx).1, fun b hb => ?_⟩
          obtain ⟨q1, q2⟩ := (h3.own x c hx).2 b hb
          exact ⟨fun h => by rcases h with h | h; exact q1 h; exact h3.dis x o c _ hx ho hxo b hb (hin b h), q2⟩
      · have key : ∀ x b, b ∈ upd Φ o [(ρ o).blk] x → b ∈ Φ x := fun x b hb => by
          by_cases hxo : x = o
          · subst hxo
            rw [upd_same] at hb
            rw [hF]
            obtain rfl : b = (ρ x).blk := by simpa using hb
            simp
          · rwa [upd_other _ _ _ hxo] at hb
        have ct : ∀ x c, (s'.ob x).ct = some c → ∃ c', (s.ob x).ct = some c' := fun x c hx => by
          by_cases hxo : x = o
          · subst hxo; exact ⟨_, ho⟩
          · exact ⟨c, by rw [← hobx x hxo]; exact hx⟩
        obtain ⟨c1, hc1⟩ := ct x c hx
        obtain ⟨c2, hc2⟩ := ct y c' hy
        exact h3.dis x y c1 c2 hc1 hc2 hne b (key x b hb) (key y b hb')
    exact ⟨by rw [hdk]; exact h1, h2, ρ, S', _, hrep, fun t => by rw [hslot, hshe]; exact hm (h4 t)⟩
theorem vc_freeze {sl : List (Nat × D)} {hp : List (Nat × Ob)} {dk : List Nat} {c : Code} {Q : Exit → St → Prop} (o : Nat) {sh : Sh} {cs cs' : List D} (ho : (⟨sl, hp, dk⟩ : St).ob o = ⟨sh, some (.cells cs)⟩) (hc : cs.all D.fr0 = true) (hcs : cs.map frz = cs') (h : VC C c ⟨sl, (o, ⟨sh, some (.cells cs')⟩) :: hp, dk⟩ Q) : VC C c ⟨sl, hp, dk⟩ Q := by
  subst hcs
  have := wk_freeze (C := C) (s := ⟨sl, hp, dk⟩) o (by rw [ho]) hc
  rw [ho] at this
  exact h.weak this
/-- An object is given to the readers: slot t reads it, and nobody may change it any more. -/
theorem wk_give (t o : Nat) {d : D} {c0 : Cont} (ho : (s.ob o).ct = some c0) (hm : Mat s (s.slot t) d [] [o]) (hd : d.pf = true) : Wk C s ⟨(t, d) :: s.sl, (o, ⟨(s.ob o).sh, none⟩) :: s.hp, s.dk⟩ := by
  intro a w hr
  obtain ⟨h1, h2, ρ, S, Φ, h3, h4⟩ := hr
  have hown := h3.own o _ ho
  have hSS : ∀ b, S b → Lent s ρ S Φ [o] b := fun _ h => .inl h
  have hLe : ∀ b, Lent s ρ S Φ [o] b → S b ∨ b ∈ Φ o := fun b hb => by
    rcases hb with hb | ⟨x, hx, _, hb, _⟩
    · exact .inl hb
    · obtain rfl : x = o := by simpa using hx
      exact .inr hb
  obtain ⟨F, k1, _, k3⟩ := hm.sound h3 hSS (lent_ok h3 [o]) (by simp) (h4 t)
  have hm' : ∀ {e v F}, RV w S ρ s.sh e v F → RV w (Lent s ρ S Φ [o]) ρ s.sh e v F := fun hr => hr.mono hSS (fun _ _ => rfl) (fun _ => ⟨Nat.le_refl _, fun _ => ⟨rfl, rfl⟩⟩) (fun _ _ => rfl)
  have hobx : ∀ x, (⟨(t, d) :: s.sl, (o, ⟨(s.ob o).sh, none⟩) :: s.hp, s.dk⟩ : St).ob x = if x = o then ⟨(s.ob o).sh, none⟩ else s.ob x := fun x => by
    simp only [St.ob, look]
    by_cases hx : x = o
    · subst hx; simp
    · rw [if_neg (fun e => hx e.symm), if_neg hx]
  have hshe : (⟨(t, d) :: s.sl, (o, ⟨(s.ob o).sh, none⟩) :: s.hp, s.dk⟩ : St).sh = s.sh := by
    funext x
    unfold St.sh
    rw [hobx]
    split
    · rename_i e; subst e; rfl
    · rfl
  have hslot : ∀ x, (⟨(t, d) :: s.sl, (o, ⟨(s.ob o).sh, none⟩) :: s.hp, s.dk⟩ : St).slot x = if t = x then d else s.slot x := fun x => by simp only [St.slot, look]
  have hlive : ∀ x c, ((⟨(t, d) :: s.sl, (o, ⟨(s.ob o).sh, none⟩) :: s.hp, s.dk⟩ : St).ob x).ct = some c → x ≠ o ∧ (s.ob x).ct = some c := fun x c hx => by
    rw [hobx] at hx
    split at hx
    · cases hx
    · exact ⟨by assumption, hx⟩
  generalize hs' : (⟨(t, d) :: s.sl, (o, ⟨(s.ob o).sh, none⟩) :: s.hp, s.dk⟩ : St) = s' at *
  have hdk : s'.dk = s.dk := by rw [← hs']
  have hdkn : s.dk.Nodup ∧ ∀ r ∈ s.dk, C.w0.heap.size ≤ r ∧ ¬ Lent s ρ S Φ [o] r := ⟨h3.dkn.1, fun r hr => ⟨(h3.dkn.2 r hr).1, fun hb => by
    rcases hLe r hb with hb | hb
    · exact (h3.dkn.2 r hr).2 hb
    · exact (hown.2 r hb).2.2.2 hr⟩⟩
  have hrep : RepW C s' ρ (Lent s ρ S Φ [o]) Φ w := by
    refine ⟨h3.os, h3.tape, h3.output, h3.size, h3.szs, h3.fr, fun b hb => .inl (h3.s0 b hb), fun b hb => ?_, fun b hb => ?_, fun g c hg => by rw [hshe]; exact hm' (h3.gl g c hg), fun x c hx => ?_, fun e v hv => by rw [hshe]; exact hm' (h3.rv e v hv), by rw [hdk]; exact h3.dk, by rw [hdk]; exact hdkn, fun x c hx => ?_, fun x y c c' hx hy hne => h3.dis x y c c' (hlive x c hx).2 (hlive y c' hy).2 hne⟩
    · rcases hLe b hb with hb | hb
      · exact h3.s1 b hb
      · obtain ⟨_, q2, q3, _⟩ := hown.2 b hb
        rcases q3 with q3 | q3
        · exact ⟨q2, .inr (.inl q3)⟩
        · exact ⟨q2, .inr (.inr q3)⟩
    · rcases hLe b hb with hb | hb
      · exact h3.sc b hb
      · exact (h3.ob o _ ho).rows b hb
    · rw [hshe]
      exact (h3.ob x c (hlive x c hx).2).mono hSS (fun _ _ => rfl) (fun _ => ⟨Nat.le_refl _, fun _ => ⟨rfl, rfl⟩⟩) (fun _ _ => rfl)
    · rw [hdk]
      obtain ⟨hxo, hx'⟩ := hlive x c hx
      refine ⟨(h3.own x c hx').1, fun b hb => ?_⟩
      obtain ⟨q1, q2⟩ := (h3.own x c hx').2 b hb
      exact ⟨fun h => by rcases hLe b h with h | h; exact q1 h; exact h3.dis x o c _ hx' ho hxo b hb h, q2⟩
  refine ⟨by rw [hdk]; exact h1, h2, ρ, _, _, hrep, fun x => ?_⟩
  rw [hslot, hshe]
  split
  · rename_i e
    subst e
    exact (pf_nv hd k1).2
  · exact hm' (h4 x)
theorem vc_give {sl : List (Nat × D)} {hp : List (Nat × Ob)} {dk : List Nat} {c : Code} {Q : Exit → St → Prop} (t o : Nat) {sh : Sh} {c0 : Cont} {d e : D} (ho : (⟨sl, hp, dk⟩ : St).ob o = ⟨sh, some c0⟩) (he : frc (look .bot sl t) = some e) (hm : Mat ⟨sl, hp, dk⟩ e d [] [o]) (hd : d.pf = true) (h : VC C c ⟨(t, d) :: sl, (o, ⟨sh, none⟩) :: hp, dk⟩ Q) : VC C c ⟨sl, hp, dk⟩ Q := by
  have := wk_give (C := C) (s := ⟨sl, hp, dk⟩) t o (d := d) (by rw [ho]) (by rw [show (⟨sl, hp, dk⟩ : St).slot t = e from frc_ok he]; exact hm) hd
  rw [ho] at this
  exact h.weak this
/-! The same, where only less is kept. -/
theorem wclo {sl : List (Nat × D)} {hp : List (Nat × Ob)} {dk : List Nat} {s2 : St} (o i x : Nat) {sh shx : Sh} {cs cs' : List D} {cx : Cont} {r d : D} (ho : (⟨sl, hp, dk⟩ : St).ob o = ⟨sh, some (.cells cs)⟩) (hi : cs[i]? = some r) (hr : r.isR = true) (hx : Nat.beq x o = false)
    (hxc : (⟨sl, hp, dk⟩ : St).ob x = ⟨shx, some cx⟩) (hm : Mat ⟨sl, hp, dk⟩ r d [x] []) (hd : d.fr1 = true) (hcs : cs.set i d = cs') (h : Wk C ⟨sl, (o, ⟨sh, some (.cells cs')⟩) :: (x, ⟨shx, none⟩) :: hp, dk⟩ s2) : Wk C ⟨sl, hp, dk⟩ s2 := by
  subst hcs
  have hx' : x ≠ o := fun e => by subst e; simp at hx
  have := wk_close (C := C) (s := ⟨sl, hp, dk⟩) o i x (by rw [ho]) hi hr (by rw [hxc]) hm hd hx'
  rw [ho, hxc] at this
  exact this.trans h
theorem wclose {sl : List (Nat × D)} {hp : List (Nat × Ob)} {dk : List Nat} {s2 : St} (o i x : Nat) {sh shx : Sh} {cs cs' : List D} {l : List UInt8} {g off len : Nat} (ho : (⟨sl, hp, dk⟩ : St).ob o = ⟨sh, some (.cells cs)⟩) (hi : cs[i]? = some (.sl x g off len)) (hx : Nat.beq x o = false)
    (hxc : (⟨sl, hp, dk⟩ : St).ob x = ⟨shx, some (.bytes l)⟩) (hg : g = shx.gen) (he : shx.esz = 1) (hcs : cs.set i (.ownb ((l.drop off).take len)) = cs') (h : Wk C ⟨sl, (o, ⟨sh, some (.cells cs')⟩) :: (x, ⟨shx, none⟩) :: hp, dk⟩ s2) : Wk C ⟨sl, hp, dk⟩ s2 := by
  have hshx : (⟨sl, hp, dk⟩ : St).sh x = shx := by unfold St.sh; rw [hxc]
  exact wclo o i x ho hi rfl hx hxc (.sl_b x g off len l (by rw [hxc]) (by rw [hshx]; exact hg) (by rw [hshx]; exact he)) rfl hcs h
theorem wcloses {sl : List (Nat × D)} {hp : List (Nat × Ob)} {dk : List Nat} {s2 : St} (o i x : Nat) {sh shx : Sh} {cs cs' cx : List D} {g len e : Nat} (ho : (⟨sl, hp, dk⟩ : St).ob o = ⟨sh, some (.cells cs)⟩) (hi : cs[i]? = some (.sl x g 0 len)) (hx : Nat.beq x o = false)
    (hxc : (⟨sl, hp, dk⟩ : St).ob x = ⟨shx, some (.cells cx)⟩) (hg : g = shx.gen) (he : shx.esz = e) (h0 : Nat.blt 0 e = true) (hl : cx.length = len * e) (hd : cx.all D.fr0 = true) (hcs : cs.set i (.owns e len cx) = cs') (h : Wk C ⟨sl, (o, ⟨sh, some (.cells cs')⟩) :: (x, ⟨shx, none⟩) :: hp, dk⟩ s2) : Wk C ⟨sl, hp, dk⟩ s2 := by
  have hshx : (⟨sl, hp, dk⟩ : St).sh x = shx := by unfold St.sh; rw [hxc]
  exact wclo o i x ho hi rfl hx hxc (.sl_f x g len e cx (by rw [hxc]) (by rw [hshx]; exact hg) (by rw [hshx]; exact he) (by simpa [Nat.blt_eq] using h0) hl hd) hd hcs h
theorem look_nm {ns : List Nat} : ∀ {l : List (Nat × D)}, (l.all fun p => p.2.nm.all ns.contains) = true → ∀ t, ∀ o ∈ (look .bot l t).nm, o ∈ ns
  | [], _, t, o, ho => by cases ho
  | (u, d) :: r, h, t, o, ho => by
    simp only [List.all_cons, Bool.and_eq_true] at h
    simp only [look] at ho
    split at ho
    · have := List.all_eq_true.1 h.1 o ho
      simpa using this
    · exact look_nm h.2 t o ho
theorem ros_rof {s n : Nat} {cs : List D} {f : Nat → Nat → D} (h : ∀ i j, i < n → j < s → cs[i * s + j]? = some (f i j) ∧ (f i j).pf0 = true) : Cnv (.ros s n cs) (.rof s n f) := by
  intro w S v F hr
  cases hr with
  | ros _ _ _ A cap b off us hl hn hm hA hc hr =>
    exact .rof s n f A cap b off (fun i j => us (i * s + j)) hn hm (fun i j hi hj => (h i j hi hj).2) hA (fun i j hi hj => hc (by omega) _ _ (h i j hi hj).1) (fun i j hi hj => hr _ _ (h i j hi hj).1)
/-! The rules as steps: what is known turns. -/
theorem kopn {sl : List (Nat × D)} {hp : List (Nat × Ob)} {dk : List Nat} (o i x : Nat) {sh : Sh} {cs cs' : List D} {d : D} {g : Nat} (hd : d.ow = true) (ho : (⟨sl, hp, dk⟩ : St).ob o = ⟨sh, some (.cells cs)⟩) (hi : cs[i]? = some d) (hx : Nat.beq x o = false)
    (hg : ((⟨sl, hp, dk⟩ : St).ob x).sh.gen = g) (hcs : cs.set i (oref d x (g + 1)) = cs') : Wk C ⟨sl, hp, dk⟩ ⟨sl, (o, ⟨sh, some (.cells cs')⟩) :: (x, ⟨⟨g + 1, oesz d, (ocont d).len⟩, some (ocont d)⟩) :: hp, dk⟩ := by
  subst hg
  subst hcs
  have hx' : x ≠ o := fun e => by subst e; simp at hx
  have := wk_open (C := C) (s := ⟨sl, hp, dk⟩) o i x hd (by rw [ho]) hi hx'
  rw [ho] at this
  exact this
theorem kopen {sl : List (Nat × D)} {hp : List (Nat × Ob)} {dk : List Nat} (o i x : Nat) {sh : Sh} {cs cs' : List D} {l : List UInt8} {g : Nat} (ho : (⟨sl, hp, dk⟩ : St).ob o = ⟨sh, some (.cells cs)⟩) (hi : cs[i]? = some (.ownb l)) (hx : Nat.beq x o = false)
    (hg : ((⟨sl, hp, dk⟩ : St).ob x).sh.gen = g) (hcs : cs.set i (.sl x (g + 1) 0 l.length) = cs') : Wk C ⟨sl, hp, dk⟩ ⟨sl, (o, ⟨sh, some (.cells cs')⟩) :: (x, ⟨⟨g + 1, 1, l.length⟩, some (.bytes l)⟩) :: hp, dk⟩ := kopn o i x (d := .ownb l) rfl ho hi hx hg hcs
theorem kopens {sl : List (Nat × D)} {hp : List (Nat × Ob)} {dk : List Nat} (o i x : Nat) {sh : Sh} {cs cs' cs1 : List D} {e n : Nat} {g : Nat} (ho : (⟨sl, hp, dk⟩ : St).ob o = ⟨sh, some (.cells cs)⟩) (hi : cs[i]? = some (.owns e n cs1)) (hd : cs1.all D.fr0 = true) (hx : Nat.beq x o = false)
    (hg : ((⟨sl, hp, dk⟩ : St).ob x).sh.gen = g) (hcs : cs.set i (.sl x (g + 1) 0 n) = cs') : Wk C ⟨sl, hp, dk⟩ ⟨sl, (o, ⟨sh, some (.cells cs')⟩) :: (x, ⟨⟨g + 1, e, cs1.length⟩, some (.cells cs1)⟩) :: hp, dk⟩ := kopn o i x (d := .owns e n cs1) hd ho hi hx hg hcs
theorem kopenp {sl : List (Nat × D)} {hp : List (Nat × Ob)} {dk : List Nat} (o i x : Nat) {sh : Sh} {cs cs' cs1 : List D} {g : Nat} (ho : (⟨sl, hp, dk⟩ : St).ob o = ⟨sh, some (.cells cs)⟩) (hi : cs[i]? = some (.ownp cs1)) (hd : cs1.all D.fr0 = true) (hx : Nat.beq x o = false)
    (hg : ((⟨sl, hp, dk⟩ : St).ob x).sh.gen = g) (hcs : cs.set i (.ptr x (g + 1) 0) = cs') : Wk C ⟨sl, hp, dk⟩ ⟨sl, (o, ⟨sh, some (.cells cs')⟩) :: (x, ⟨⟨g + 1, 1, cs1.length⟩, some (.cells cs1)⟩) :: hp, dk⟩ := kopn o i x (d := .ownp cs1) hd ho hi hx hg hcs
theorem kclose {sl : List (Nat × D)} {hp : List (Nat × Ob)} {dk : List Nat} (o i x : Nat) {sh shx : Sh} {cs cs' : List D} {l : List UInt8} {g off len : Nat} (ho : (⟨sl, hp, dk⟩ : St).ob o = ⟨sh, some (.cells cs)⟩) (hi : cs[i]? = some (.sl x g off len)) (hx : Nat.beq x o = false)
    (hxc : (⟨sl, hp, dk⟩ : St).ob x = ⟨shx, some (.bytes l)⟩) (hg : g = shx.gen) (he : shx.esz = 1) (hcs : cs.set i (.ownb ((l.drop off).take len)) = cs') : Wk C ⟨sl, hp, dk⟩ ⟨sl, (o, ⟨sh, some (.cells cs')⟩) :: (x, ⟨shx, none⟩) :: hp, dk⟩ := wclose o i x ho hi hx hxc hg he hcs (Wk.refl _ _)
theorem kcloses {sl : List (Nat × D)} {hp : List (Nat × Ob)} {dk : List Nat} (o i x : Nat) {sh shx : Sh} {cs cs' cx : List D} {g len e : Nat} (ho : (⟨sl, hp, dk⟩ : St).ob o = ⟨sh, some (.cells cs)⟩) (hi : cs[i]? = some (.sl x g 0 len)) (hx : Nat.beq x o = false)
    (hxc : (⟨sl, hp, dk⟩ : St).ob x = ⟨shx, some (.cells cx)⟩) (hg : g = shx.gen) (he : shx.esz = e) (h0 : Nat.blt 0 e = true) (hl : cx.length = len * e) (hd : cx.all D.fr0 = true) (hcs : cs.set i (.owns e len cx) = cs') : Wk C ⟨sl, hp, dk⟩ ⟨sl, (o, ⟨sh, some (.cells cs')⟩) :: (x, ⟨shx, none⟩) :: hp, dk⟩ := wcloses o i x ho hi hx hxc hg he h0 hl hd hcs (Wk.refl _ _)
theorem kclosep {sl : List (Nat × D)} {hp : List (Nat × Ob)} {dk : List Nat} (o i x : Nat) {sh shx : Sh} {cs cs' cx : List D} {g : Nat} (ho : (⟨sl, hp, dk⟩ : St).ob o = ⟨sh, some (.cells cs)⟩) (hi : cs[i]? = some (.ptr x g 0)) (hx : Nat.beq x o = false)
    (hxc : (⟨sl, hp, dk⟩ : St).ob x = ⟨shx, some (.cells cx)⟩) (hg : g = shx.gen) (h0 : Nat.blt 0 cx.length = true) (hd : cx.all D.fr0 = true) (hcs : cs.set i (.ownp cx) = cs') : Wk C ⟨sl, hp, dk⟩ ⟨sl, (o, ⟨sh, some (.cells cs')⟩) :: (x, ⟨shx, none⟩) :: hp, dk⟩ := by
  have hshx : (⟨sl, hp, dk⟩ : St).sh x = shx := by unfold St.sh; rw [hxc]
  exact wclo o i x ho hi rfl hx hxc (.ptr_f x g cx (by rw [hxc]) (by rw [hshx]; exact hg) hd (by simpa [Nat.blt_eq] using h0)) hd hcs (Wk.refl _ _)
theorem kfreeze {sl : List (Nat × D)} {hp : List (Nat × Ob)} {dk : List Nat} (o : Nat) {sh : Sh} {cs cs' : List D} (ho : (⟨sl, hp, dk⟩ : St).ob o = ⟨sh, some (.cells cs)⟩) (hc : cs.all D.fr0 = true) (hcs : cs.map frz = cs') : Wk C ⟨sl, hp, dk⟩ ⟨sl, (o, ⟨sh, some (.cells cs')⟩) :: hp, dk⟩ := by
  subst hcs
  have := wk_freeze (C := C) (s := ⟨sl, hp, dk⟩) o (by rw [ho]) hc
  rw [ho] at this
  exact this
theorem kgive {sl : List (Nat × D)} {hp : List (Nat × Ob)} {dk : List Nat} (t o : Nat) {sh : Sh} {c0 : Cont} {d e : D} (ho : (⟨sl, hp, dk⟩ : St).ob o = ⟨sh, some c0⟩) (he : frc (look .bot sl t) = some e) (hm : Mat ⟨sl, hp, dk⟩ e d [] [o]) (hd : d.pf = true) : Wk C ⟨sl, hp, dk⟩ ⟨(t, d) :: sl, (o, ⟨sh, none⟩) :: hp, dk⟩ := by
  have := wk_give (C := C) (s := ⟨sl, hp, dk⟩) t o (d := d) (by rw [ho]) (by rw [show (⟨sl, hp, dk⟩ : St).slot t = e from frc_ok he]; exact hm) hd
  rw [ho] at this
  exact this
/-- Bytes, whole. -/
theorem kgiveb {sl : List (Nat × D)} {hp : List (Nat × Ob)} {dk : List Nat} (t o : Nat) {sh : Sh} {l l' : List UInt8} {g off len : Nat} (ho : (⟨sl, hp, dk⟩ : St).ob o = ⟨sh, some (.bytes l)⟩) (he : frc (look .bot sl t) = some (.sl o g off len)) (hg : g = sh.gen) (he1 : sh.esz = 1) (hl : (l.drop off).take len = l') : Wk C ⟨sl, hp, dk⟩ ⟨(t, .rob l') :: sl, (o, ⟨sh, none⟩) :: hp, dk⟩ := by
  subst hl
  have hsh : (⟨sl, hp, dk⟩ : St).sh o = sh := by unfold St.sh; rw [ho]
  exact kgive t o ho he (.sl_rb o g off len l (by rw [ho]) (by rw [hsh]; exact hg) (by rw [hsh]; exact he1)) rfl
/-- Rows, whole, by a function. -/
theorem kgivef {sl : List (Nat × D)} {hp : List (Nat × Ob)} {dk : List Nat} (t o : Nat) {sh : Sh} {cs : List D} {g len : Nat} (f : Nat → Nat → D) (ho : (⟨sl, hp, dk⟩ : St).ob o = ⟨sh, some (.cells cs)⟩) (he : frc (look .bot sl t) = some (.sl o g 0 len)) (hg : g = sh.gen) (he1 : sh.esz = 1) (hl : cs.length = len)
    (hf : ∀ i, i < len → cs[i]? = some (f i 0) ∧ (f i 0).pf0 = true) (hsc : cs.all D.sc = true) (hp0 : cs.all D.pf1 = true) : Wk C ⟨sl, hp, dk⟩ ⟨(t, .rof 1 len f) :: sl, (o, ⟨sh, none⟩) :: hp, dk⟩ := by
  have hsh : (⟨sl, hp, dk⟩ : St).sh o = sh := by unfold St.sh; rw [ho]
  have hm : Mat (⟨sl, hp, dk⟩ : St) (.sl o g 0 len) (.ros 1 len cs) [] [o] := .sl_rs o g 0 len 1 cs cs [] (by rw [ho]) (by rw [hsh]; exact hg) (by rw [hsh]; exact he1) (by decide) (by rw [Nat.mul_one, ← hl, List.drop_zero, List.take_length]; exact hsc) (by rw [Nat.mul_one, ← hl, List.drop_zero, List.take_length]; exact .tall _ hp0)
  exact kgive t o ho he (.cnv _ _ _ _ _ hm (ros_rof fun i j hi hj => by
    obtain rfl : j = 0 := by omega
    rw [Nat.mul_one, Nat.add_zero]
    exact hf i hi)) rfl
end
end Go.Proofs.Ytpmbdppppnbmnaa
