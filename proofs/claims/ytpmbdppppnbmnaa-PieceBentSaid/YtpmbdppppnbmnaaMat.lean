/- Values without names: what a call is handed, and what it hands back; from named values to such, and back. Over any program. -/
import Derived.Test.YtpmbdppppnbmnaaApnd
namespace Go.Proofs.Ytpmbdppppnbmnaa
open Go Go.RowKit
set_option linter.unusedVariables false
set_option linter.unusedSimpArgs false

def D.pf1 : D → Bool
  | .ros _ _ cs => cs.all D.pf0
  | .rop _ cs => cs.all D.pf0
  | d => d.pf0
/-- It names no object and owns nothing. -/
def D.pf : D → Bool
  | .aggb _ => true
  | .agg cs => cs.all D.pf1
  | .tup cs => cs.all fun d => match d with | .aggb _ => true | .agg cs => cs.all D.pf1 | d => d.pf1
  | d => d.pf1
def D.fr0 : D → Bool
  | .ownb _ => true
  | d => d.pf1
/-- It names no object. -/
def D.fr1 : D → Bool
  | .owns _ _ cs => cs.all D.fr0
  | .ownp cs => cs.all D.fr0
  | .agg cs => cs.all D.fr0
  | .ownb _ => true
  | d => d.pf
def D.fr : D → Bool
  | .tup cs => cs.all D.fr1
  | d => d.fr1
def ρ0 : Nat → Pl := fun _ => ⟨0, 0, 0⟩
def H0 : Nat → Sh := fun _ => ⟨0, 0, 0⟩
/-- A value without names. -/
def NV (w : World) (S : Nat → Prop) (d : D) (v : Value) (F : List Nat) : Prop := RV w S ρ0 H0 d v F

section
variable {w : World} {S : Nat → Prop} {ρ ρ' : Nat → Pl} {H H' : Nat → Sh}
theorem all_get {cs : List D} {p : D → Bool} (h : cs.all p = true) {i : Nat} {c : D} (hi : cs[i]? = some c) : p c = true := List.all_eq_true.1 h c (List.mem_of_getElem? hi)
theorem pf0_nv {d : D} (hd : d.pf0 = true) {v : Value} {F : List Nat} (h : RV w S ρ H d v F) : F = [] ∧ RV w S ρ' H' d v [] := by
  induction h with
  | rof s n f A cap b off us hn hm hp hA hc hr ih => exact ⟨rfl, .rof s n f A cap b off us hn hm hp hA hc (fun i j hi hj => (ih i j hi hj (hp i j hi hj)).2)⟩
  | rpf k j s n f b base us hb hp hc hr ih => exact ⟨rfl, .rpf k j s n f b base us hb hp hc (fun i j hi hj => (ih i j hi hj (hp i j hi hj)).2)⟩
  | _ => first | (cases hd; done) | exact ⟨rfl, by constructor <;> assumption⟩ | exact ⟨rfl, by constructor⟩
theorem pf1_nv {d : D} (hd : d.pf1 = true) {v : Value} {F : List Nat} (h : RV w S ρ H d v F) : F = [] ∧ RV w S ρ' H' d v [] := by
  by_cases h0 : d.pf0 = true
  · exact pf0_nv h0 h
  · cases h with
    | ros s n cs A cap b off us hl hn hm hA hc hr => exact ⟨rfl, .ros s n cs A cap b off us hl hn hm hA hc (fun i c e => (pf0_nv (all_get hd e) (hr i c e)).2)⟩
    | rop off cs b base us hb hc hr => exact ⟨rfl, .rop off cs b base us hb hc (fun i c e => (pf0_nv (all_get hd e) (hr i c e)).2)⟩
    | _ => first | exact absurd hd h0 | (cases hd; done)
theorem flat_of_nil {Fs : List (List Nat)} (h : ∀ (i : Nat) (f : List Nat), Fs[i]? = some f → f = []) : Fs.flatten = [] := by
  apply List.eq_nil_iff_forall_not_mem.2
  intro b hb
  obtain ⟨f, hf, hbf⟩ := List.mem_flatten.1 hb
  obtain ⟨i, hi⟩ := List.getElem?_of_mem hf
  rw [h i f hi] at hbf
  cases hbf
theorem agg_nv {cs : List D} (hd : cs.all D.pf1 = true) {vs : List Value} {Fs : List (List Nat)} (hv : vs.length = cs.length) (hf : Fs.length = cs.length) (hr : ∀ (i : Nat) (c : D) (u : Value) (f : List Nat), cs[i]? = some c → vs[i]? = some u → Fs[i]? = some f → RV w S ρ H c u f) :
    Fs.flatten = [] ∧ RV w S ρ' H' (.agg cs) (.agg vs.toArray) [] := by
  have key : ∀ (i : Nat) (c : D) (u : Value) (f : List Nat), cs[i]? = some c → vs[i]? = some u → Fs[i]? = some f → f = [] ∧ RV w S ρ' H' c u [] := fun i c u f h1 h2 h3 => pf1_nv (all_get hd h1) (hr i c u f h1 h2 h3)
  refine ⟨flat_of_nil fun i f h3 => ?_, RV.agg0 hv fun i c u h1 h2 => ?_⟩
  · have hi : i < Fs.length := (List.getElem?_eq_some_iff.1 h3).1
    exact (key i _ _ f (List.getElem?_eq_getElem (by omega)) (List.getElem?_eq_getElem (by omega)) h3).1
  · have hi : i < cs.length := (List.getElem?_eq_some_iff.1 h1).1
    exact (key i c u _ h1 h2 (List.getElem?_eq_getElem (by omega))).2
theorem pf_nv {d : D} (hd : d.pf = true) {v : Value} {F : List Nat} (h : RV w S ρ H d v F) : F = [] ∧ RV w S ρ' H' d v [] := by
  by_cases h0 : d.pf1 = true
  · exact pf1_nv h0 h
  · cases h with
    | aggb l => exact ⟨rfl, .aggb l⟩
    | agg cs vs Fs F hv hf hF hr =>
      subst hF
      exact agg_nv hd hv hf hr
    | tup cs vs Fs F hv hf hF hr =>
      subst hF
      have key : ∀ (i : Nat) (c : D) (u : Value) (f : List Nat), cs[i]? = some c → vs[i]? = some u → Fs[i]? = some f → f = [] ∧ RV w S ρ' H' c u [] := fun i c u f h1 h2 h3 => by
        have hc := all_get hd h1
        have hr' := hr i c u f h1 h2 h3
        split at hc
        · cases hr'; exact ⟨rfl, .aggb _⟩
        · cases hr' with
          | agg cs vs Fs F hv hf hF hr =>
            subst hF
            exact agg_nv hc hv hf hr
        · exact pf1_nv hc hr'
      refine ⟨flat_of_nil fun i f h3 => ?_, RV.tup0 hv fun i c u h1 h2 => ?_⟩
      · have hi : i < Fs.length := (List.getElem?_eq_some_iff.1 h3).1
        exact (key i _ _ f (List.getElem?_eq_getElem (by omega)) (List.getElem?_eq_getElem (by omega)) h3).1
      · have hi : i < cs.length := (List.getElem?_eq_some_iff.1 h1).1
        exact (key i c u _ h1 h2 (List.getElem?_eq_getElem (by omega))).2
    | _ => first | exact absurd hd h0 | (cases hd; done)
theorem fr0_nv {d : D} (hd : d.fr0 = true) {v : Value} {F : List Nat} (h : RV w S ρ H d v F) : RV w S ρ' H' d v F := by
  by_cases h0 : d.pf1 = true
  · obtain ⟨e, h1⟩ := pf1_nv h0 h (ρ' := ρ') (H' := H')
    rw [e]; exact h1
  · cases h with
    | ownb l A n cap F cur off hl h hc => exact .ownb l A n cap F cur off hl h hc
    | _ => first | exact absurd hd h0 | (cases hd; done)
theorem fr1_nv {d : D} (hd : d.fr1 = true) {v : Value} {F : List Nat} (h : RV w S ρ H d v F) : RV w S ρ' H' d v F := by
  by_cases h0 : d.pf = true
  · obtain ⟨e, h1⟩ := pf_nv h0 h (ρ' := ρ') (H' := H')
    rw [e]; exact h1
  · cases h with
    | ownb l A n cap F cur off hl h hc => exact .ownb l A n cap F cur off hl h hc
    | owns s n cs A cap F F0 Fs cur off hl h hf hF hr => exact .owns s n cs A cap F F0 Fs cur off hl h hf hF (fun i c u f h1 h2 h3 => fr0_nv (all_get hd h1) (hr i c u f h1 h2 h3))
    | ownp cs b base cur E fz F Fs hh hz hs hf hF hr => exact .ownp cs b base cur E fz F Fs hh hz hs hf hF (fun i c u f h1 h2 h3 => fr0_nv (all_get hd h1) (hr i c u f h1 h2 h3))
    | agg cs vs Fs F hv hf hF hr => exact .agg cs vs Fs F hv hf hF (fun i c u f h1 h2 h3 => fr0_nv (all_get hd h1) (hr i c u f h1 h2 h3))
    | _ => first | exact absurd hd h0 | (cases hd; done)
theorem fr_nv {d : D} (hd : d.fr = true) {v : Value} {F : List Nat} (h : RV w S ρ H d v F) : RV w S ρ' H' d v F := by
  by_cases h0 : d.fr1 = true
  · exact fr1_nv h0 h
  · cases h with
    | tup cs vs Fs F hv hf hF hr => exact .tup cs vs Fs F hv hf hF (fun i c u f h1 h2 h3 => fr1_nv (all_get hd h1) (hr i c u f h1 h2 h3))
    | _ => first | exact absurd hd h0 | (cases hd; done)
end

/-- What reads as the one reads as the other, too. -/
def Cnv (d d' : D) : Prop := ∀ (w : World) (S : Nat → Prop) (v : Value) (F : List Nat), NV w S d v F → NV w S d' v F
/-- From a named value to one without names: the objects that it takes, and those that are read only from now on. -/
inductive Mat (s : St) : D → D → List Nat → List Nat → Prop
  | plain (d : D) (h : d.pf = true) : Mat s d d [] []
  | bot (d : D) : Mat s d .bot [] []
  | nil_b : Mat s .nilS (.ownb []) [] []
  | nil_rb : Mat s .nilS (.rob []) [] []
  | nil_s (e : Nat) : Mat s .nilS (.owns e 0 []) [] []
  | nil_rs (e : Nat) : Mat s .nilS (.ros e 0 []) [] []
  | sl_b (o g off len : Nat) (l : List UInt8) (ho : (s.ob o).ct = some (.bytes l)) (hg : g = (s.sh o).gen) (he : (s.sh o).esz = 1) : Mat s (.sl o g off len) (.ownb ((l.drop off).take len)) [o] []
  | sl_rb (o g off len : Nat) (l : List UInt8) (ho : (s.ob o).ct = some (.bytes l)) (hg : g = (s.sh o).gen) (he : (s.sh o).esz = 1) : Mat s (.sl o g off len) (.rob ((l.drop off).take len)) [] [o]
  | sl_s (o g off len e : Nat) (cs cs' : List D) (own fro : List Nat) (ho : (s.ob o).ct = some (.cells cs)) (hg : g = (s.sh o).gen) (he : (s.sh o).esz = e) (h0 : 0 < e) (hsc : ((cs.drop off).take (len * e)).all D.sc = true) (h : Mat s (.tup ((cs.drop off).take (len * e))) (.tup cs') own fro) : Mat s (.sl o g off len) (.owns e len cs') (o :: own) fro
  | sl_rs (o g off len e : Nat) (cs cs' : List D) (fro : List Nat) (ho : (s.ob o).ct = some (.cells cs)) (hg : g = (s.sh o).gen) (he : (s.sh o).esz = e) (h0 : 0 < e) (hsc : ((cs.drop off).take (len * e)).all D.sc = true) (h : Mat s (.tup ((cs.drop off).take (len * e))) (.tup cs') [] fro) : Mat s (.sl o g off len) (.ros e len cs') [] (o :: fro)
  | sl_f (o g len e : Nat) (cs : List D) (ho : (s.ob o).ct = some (.cells cs)) (hg : g = (s.sh o).gen) (he : (s.sh o).esz = e) (h0 : 0 < e) (hl : cs.length = len * e) (hf : cs.all D.fr0 = true) : Mat s (.sl o g 0 len) (.owns e len cs) [o] []
  | ptr_f (o g : Nat) (cs : List D) (ho : (s.ob o).ct = some (.cells cs)) (hg : g = (s.sh o).gen) (hf : cs.all D.fr0 = true) (h0 : 0 < cs.length) : Mat s (.ptr o g 0) (.ownp cs) [o] []
  | ptr (o g : Nat) (cs cs' : List D) (own fro : List Nat) (ho : (s.ob o).ct = some (.cells cs)) (hg : g = (s.sh o).gen) (hsc : cs.all D.sc = true) (h0 : 0 < cs.length) (h : Mat s (.tup cs) (.tup cs') own fro) : Mat s (.ptr o g 0) (.ownp cs') (o :: own) fro
  | agg (cs cs' : List D) (own fro : List Nat) (h : Mat s (.tup cs) (.tup cs') own fro) : Mat s (.agg cs) (.agg cs') own fro
  | tnil : Mat s (.tup []) (.tup []) [] []
  | tcons (d d' : D) (ds ds' : List D) (o1 o2 f1 f2 : List Nat) (h : Mat s d d' o1 f1) (hs : Mat s (.tup ds) (.tup ds') o2 f2) : Mat s (.tup (d :: ds)) (.tup (d' :: ds')) (o1 ++ o2) (f1 ++ f2)
  | tall (ds : List D) (h : ds.all D.pf1 = true) : Mat s (.tup ds) (.tup ds) [] []
  | cnv (d d1 d2 : D) (own fro : List Nat) (h : Mat s d d1 own fro) (hc : Cnv d1 d2) : Mat s d d2 own fro
  | tapp (a a' b b' : List D) (o1 o2 f1 f2 : List Nat) (h : Mat s (.tup a) (.tup a') o1 f1) (hs : Mat s (.tup b) (.tup b') o2 f2) : Mat s (.tup (a ++ b)) (.tup (a' ++ b')) (o1 ++ o2) (f1 ++ f2)

section
variable {C : Ctx} {s : St} {ρ : Nat → Pl} {S S' : Nat → Prop} {Φ : Nat → List Nat} {w : World}
/-- A value without names, its blocks those of the objects that are given up. -/
def Got (s : St) (Φ : Nat → List Nat) (w : World) (S' : Nat → Prop) (d : D) (v : Value) (own : List Nat) : Prop :=
  ∃ F, NV w S' d v F ∧ F.Nodup ∧ ∀ b ∈ F, ∃ o ∈ own, (s.ob o).ct.isSome = true ∧ b ∈ Φ o
theorem got_plain {d : D} {v : Value} {own : List Nat} (h : NV w S' d v []) : Got s Φ w S' d v own := ⟨[], h, by simp, by simp⟩
theorem nv_S {d : D} {v : Value} {F : List Nat} (hS : ∀ b, S b → S' b) (h : RV w S ρ H0 d v F) : RV w S' ρ H0 d v F :=
  h.mono hS (fun _ _ => rfl) (fun _ => ⟨Nat.le_refl _, fun _ => ⟨rfl, rfl⟩⟩) (fun _ _ => rfl)
/-- The components of a list. -/
theorem nv_tup {cs : List D} {v : Value} {F : List Nat} (h : NV w S' (.tup cs) v F) : ∃ (vs : List Value) (Fs : List (List Nat)), v = .tuple vs.toArray ∧ vs.length = cs.length ∧ Fs.length = cs.length ∧ F = Fs.flatten ∧ ∀ (i : Nat) (c : D) (u : Value) (f : List Nat), cs[i]? = some c → vs[i]? = some u → Fs[i]? = some f → NV w S' c u f := by
  cases h with
  | tup _ vs Fs F hv hf hF hr => exact ⟨vs, Fs, rfl, hv, hf, hF, hr⟩
theorem tuple_inj {a b : List Value} (h : Value.tuple a.toArray = Value.tuple b.toArray) : a = b := by
  injection h with h
  simpa using h

/-- A row, as a slice that owns it. -/
theorem RowX.at_ {s : Nat} {A : Option Addr} {n cap b : Nat} {xs : List Value} (h : RowX w s A n cap xs b) : ∃ F cur off, RowAt w A n cap s F cur off ∧ (F = [] ∨ (F = [b] ∧ 0 < cap)) ∧ (∀ i, i < n * s → cur[off + i]? = xs[i]?) ∧
    (0 < cap → A = some ⟨b, off, none⟩ ∧ ∃ E fz, w.heap[b]? = some (.cells cur E fz)) := by
  obtain ⟨h1, h2, h3, h4⟩ := h
  by_cases hc : cap = 0
  · subst hc
    obtain rfl : n = 0 := by omega
    exact ⟨[], #[], 0, ⟨Nat.le_refl _, h3, .inl ⟨rfl, rfl, rfl⟩⟩, .inl rfl, fun i hi => by rw [Nat.zero_mul] at hi; omega, fun h => absurd h (by omega)⟩
  · rcases h4 with ⟨_, h0⟩ | ⟨off, cur, E, fz, hA, hh, hz, hfit, htk⟩
    · exact absurd h0 hc
    · refine ⟨[b], cur, off, ⟨h2, h3, .inr ⟨b, E, fz, rfl, hA, hh, hz, hfit⟩⟩, .inr ⟨rfl, by omega⟩, fun i hi => ?_, fun _ => ⟨hA, E, fz, hh⟩⟩
      rw [← htk, List.getElem?_take, if_pos hi, List.getElem?_drop, Array.getElem?_toList]
theorem RepW.rowb (h : RepW C s ρ S Φ w) {o off len : Nat} {l : List UInt8} (ho : (s.ob o).ct = some (.bytes l)) (he : (s.sh o).esz = 1) {v : Value} (hs : SlAt (ρ o) (s.sh o) off len v) :
    ∃ A cap, v = .slice A len cap ∧ RowX w 1 A len cap (u8s ((l.drop off).take len)) (ρ o).blk ∧ (0 < cap → (ρ o).blk ∈ Φ o) ∧ ((l.drop off).take len).length = len := by
  obtain ⟨A, cap, xs, rfl, hrow, hbb, hrd, hxr⟩ := h.row ho hs (by omega) (fun i _ => rfl)
  rw [he] at hrow hrd
  have hxl := hrow.1
  rw [Nat.mul_one] at hxl
  have hll : off + len ≤ l.length := by
    obtain ⟨_, _, _, _, _, q, _⟩ := hs
    have hcl : (s.sh o).clen = l.length := (h.ob o _ ho).1
    rw [he] at q
    omega
  have hxs : xs = u8s ((l.drop off).take len) := by
    apply List.ext_getElem?
    intro i
    rcases Nat.lt_or_ge i len with hi | hi
    · have hix : i < xs.length := by omega
      have h1 := hxr i _ (List.getElem?_eq_getElem hix)
      rw [List.getElem?_eq_getElem hix, u8s_get, List.getElem?_take, if_pos hi, List.getElem?_drop, gb_of (show off + i < l.length by omega), inv_u8 h1]
      rfl
    · rw [List.getElem?_eq_none (by omega), List.getElem?_eq_none (by rw [u8s_length, List.length_take]; omega)]
  subst hxs
  exact ⟨A, cap, rfl, hrow, hbb, by rw [List.length_take, List.length_drop]; omega⟩
/-- The elements of a slice into cells. -/
theorem RepW.rowc (h : RepW C s ρ S Φ w) {o off len e : Nat} {cs : List D} (ho : (s.ob o).ct = some (.cells cs)) (he : (s.sh o).esz = e) (h0 : 0 < e) (hsc : ((cs.drop off).take (len * e)).all D.sc = true) {v : Value} (hs : SlAt (ρ o) (s.sh o) off len v) :
    ∃ A cap xs, v = .slice A len cap ∧ RowX w e A len cap xs (ρ o).blk ∧ (0 < cap → (ρ o).blk ∈ Φ o) ∧ PR w S ρ s.sh ((cs.drop off).take (len * e)) xs ∧ xs.length = len * e ∧ off + len * e ≤ cs.length := by
  have hll : off + len * e ≤ cs.length := by
    obtain ⟨_, _, _, _, _, q, _⟩ := hs
    have hcl : (s.sh o).clen = cs.length := (h.ob o _ ho).1
    rw [he] at q
    omega
  have hat : ∀ i, i < len * e → ((cs.drop off).take (len * e))[i]? = some (Cont.at_ (.cells cs) (off + i)) := fun i hi => by
    rw [List.getElem?_take, if_pos hi, List.getElem?_drop]
    exact getD_some (by omega)
  obtain ⟨A, cap, xs, rfl, hrow, hbb, hrd, hxr⟩ := h.row ho hs (by omega) (fun i hi => by
    rw [he] at hi
    exact List.all_eq_true.1 hsc _ (List.mem_of_getElem? (hat i hi)))
  rw [he] at hrow
  have hlc : ((cs.drop off).take (len * e)).length = len * e := by rw [List.length_take, List.length_drop]; omega
  refine ⟨A, cap, xs, rfl, hrow, hbb, ⟨by rw [hrow.1, hlc], fun i c u h1 h2 => ?_⟩, hrow.1, hll⟩
  have hi : i < len * e := by rw [← hlc]; exact (List.getElem?_eq_some_iff.1 h1).1
  rw [hat i hi] at h1
  injection h1 with h1
  subst h1
  exact hxr i u h2
theorem PR.tup {H : Nat → Sh} {cs : List D} {xs : List Value} (h : PR w S ρ H cs xs) : RV w S ρ H (.tup cs) (.tuple xs.toArray) [] := RV.tup0 h.1 h.2
theorem nodup_two (h : RepW C s ρ S Φ w) {o1 o2 F1 F2 : List Nat} (hn : (o1 ++ o2).Nodup) (h1 : F1.Nodup) (h2 : F2.Nodup) (hF1 : ∀ b ∈ F1, ∃ o ∈ o1, (s.ob o).ct.isSome = true ∧ b ∈ Φ o) (hF2 : ∀ b ∈ F2, ∃ o ∈ o2, (s.ob o).ct.isSome = true ∧ b ∈ Φ o) : (F1 ++ F2).Nodup := by
  rw [List.nodup_append] at hn ⊢
  refine ⟨h1, h2, fun b hb b' hb' e => ?_⟩
  subst e
  obtain ⟨p, hp, hl, hbp⟩ := hF1 b hb
  obtain ⟨q, hq, hl', hbq⟩ := hF2 b hb'
  obtain ⟨c, hc⟩ := Option.isSome_iff_exists.1 hl
  obtain ⟨c', hc'⟩ := Option.isSome_iff_exists.1 hl'
  exact h.dis p q c c' hc hc' (hn.2.2 p hp q hq) b hbp hbq

theorem Mat.sound (h : RepW C s ρ S Φ w) (hS : ∀ b, S b → S' b) {d d' : D} {own fro : List Nat} (hm : Mat s d d' own fro) :
    (∀ o ∈ fro, ∀ c, (s.ob o).ct = some c → 0 < c.len → S' (ρ o).blk) → own.Nodup → ∀ {v : Value}, RV w S ρ s.sh d v [] → Got s Φ w S' d' v own := by
  induction hm with
  | plain d hd => intro _ _ v hr; exact got_plain (nv_S hS (pf_nv hd hr).2)
  | bot d => intro _ _ v hr; exact got_plain (.bot v)
  | nil_b => intro _ _ v hr; obtain rfl := inv_nilS hr; exact got_plain (.ownb [] none 0 0 [] #[] 0 rfl ⟨Nat.le_refl _, by simp [maxLen], .inl ⟨rfl, rfl, rfl⟩⟩ (fun i hi => absurd hi (by omega)))
  | nil_rb => intro _ _ v hr; obtain rfl := inv_nilS hr; exact got_plain (.rob [] none 0 0 ⟨rfl, Nat.le_refl _, by simp [maxLen], fun h => absurd h (by omega)⟩)
  | nil_s e => intro _ _ v hr; obtain rfl := inv_nilS hr; exact got_plain (.owns e 0 [] none 0 [] [] [] #[] 0 (by simp) ⟨Nat.le_refl _, by simp [maxLen], .inl ⟨rfl, rfl, rfl⟩⟩ rfl rfl (fun i c u f h => by simp at h))
  | nil_rs e => intro _ _ v hr; obtain rfl := inv_nilS hr; exact got_plain (.ros e 0 [] none 0 0 0 (fun _ => undef) (by simp) (Nat.le_refl _) (by simp [maxLen]) (fun h => absurd h (by omega)) (fun h => absurd h (by omega)) (fun i c h => by simp at h))
  | sl_b o g off len l ho hg he =>
    intro _ _ v hr
    obtain ⟨A, cap, rfl, hrow, hbb, hlen⟩ := h.rowb ho he (inv_sl hr hg)
    obtain ⟨F, cur, off', h1, h2, h3, _⟩ := hrow.at_
    refine ⟨F, .ownb _ A len cap F cur off' hlen h1 (fun i hi => ?_), ?_, ?_⟩
    · rw [h3 i (by omega), u8s_get, gb_of (by omega)]
      rfl
    · rcases h2 with rfl | ⟨rfl, _⟩ <;> simp
    · rcases h2 with rfl | ⟨rfl, hc⟩
      · simp
      · intro b hb
        obtain rfl : b = (ρ o).blk := by simpa using hb
        exact ⟨o, by simp, by rw [ho]; rfl, hbb hc⟩
  | sl_rb o g off len l ho hg he =>
    intro hfr _ v hr
    obtain ⟨A, cap, rfl, hrow, hbb, hlen⟩ := h.rowb ho he (inv_sl hr hg)
    obtain ⟨F, cur, off', h1, h2, h3, h4⟩ := hrow.at_
    have hll : off + len ≤ l.length := by
      obtain ⟨_, _, _, _, _, q, _⟩ := inv_sl hr hg
      have hcl : (s.sh o).clen = l.length := (h.ob o _ ho).1
      rw [he] at q
      omega
    refine got_plain (.rob _ A len cap ⟨hlen, hrow.2.1, hrow.2.2.1, fun hn => ?_⟩)
    obtain ⟨rfl, E, fz, hh⟩ := h4 (by have := hrow.2.1; omega)
    refine ⟨_, off', rfl, hfr o (by simp) _ ho (by simp [Cont.len]; omega), fun i hi => ?_⟩
    rw [cell_of_row w _ _ cur E fz hh, h3 i (by omega), u8s_get, gb_of (by omega)]
    rfl
  | sl_s o g off len e cs cs' own fro ho hg he h0 hsc hm ih =>
    intro hfr hnd v hr
    obtain ⟨A, cap, xs, rfl, hrow, hbb, hpr, hxl, hll⟩ := h.rowc ho he h0 hsc (inv_sl hr hg)
    obtain ⟨F0, cur, off', h1, h2, h3, _⟩ := hrow.at_
    rw [List.nodup_cons] at hnd
    obtain ⟨F, k1, k2, k3⟩ := ih hfr hnd.2 hpr.tup
    obtain ⟨vs', Fs, e', q1, q2, q3, q4⟩ := nv_tup k1
    obtain rfl := tuple_inj e'
    subst q3
    have hF0 : ∀ b ∈ F0, ∃ o' ∈ [o], (s.ob o').ct.isSome = true ∧ b ∈ Φ o' := by
      rcases h2 with rfl | ⟨rfl, hc⟩
      · simp
      · intro b hb
        obtain rfl : b = (ρ o).blk := by simpa using hb
        exact ⟨o, by simp, by rw [ho]; rfl, hbb hc⟩
    refine ⟨F0 ++ Fs.flatten, .owns e len cs' A cap _ F0 Fs cur off' (by rw [← q1, hxl]) h1 q2 rfl (fun i c u f p1 p2 p3 => ?_), ?_, ?_⟩
    · have hi : i < len * e := by rw [← hxl, q1]; exact (List.getElem?_eq_some_iff.1 p1).1
      rw [h3 i hi] at p2
      exact q4 i c u f p1 p2 p3
    · exact nodup_two h (o1 := [o]) (o2 := own) (by simpa using hnd) (by rcases h2 with rfl | ⟨rfl, _⟩ <;> simp) k2 hF0 k3
    · intro b hb
      rcases List.mem_append.1 hb with hb | hb
      · obtain ⟨o', ho', r⟩ := hF0 b hb
        exact ⟨o', by simp at ho'; simp [ho'], r⟩
      · obtain ⟨o', ho', r⟩ := k3 b hb
        exact ⟨o', by simp [ho'], r⟩
  | sl_rs o g off len e cs cs' fro ho hg he h0 hsc hm ih =>
    intro hfr hnd v hr
    obtain ⟨A, cap, xs, rfl, hrow, hbb, hpr, hxl, hll⟩ := h.rowc ho he h0 hsc (inv_sl hr hg)
    obtain ⟨F0, cur, off', h1, h2, h3, h4⟩ := hrow.at_
    obtain ⟨F, k1, k2, k3⟩ := ih (fun o ho => hfr o (by simp [ho])) hnd hpr.tup
    have hF : F = [] := List.eq_nil_iff_forall_not_mem.2 fun b hb => by obtain ⟨o', ho', _⟩ := k3 b hb; cases ho'
    subst hF
    obtain ⟨vs', Fs, e', q1, q2, q3, q4⟩ := nv_tup k1
    obtain rfl := tuple_inj e'
    have hpos : 0 < len → A = some ⟨(ρ o).blk, off', none⟩ ∧ S' (ρ o).blk := fun hn => by
      obtain ⟨e1, E, fz, hh⟩ := h4 (by have := hrow.2.1; omega)
      refine ⟨e1, hfr o (by simp) _ ho ?_⟩
      have := Nat.mul_pos hn h0
      simp [Cont.len]
      omega
    refine got_plain (.ros e len cs' A cap (ρ o).blk off' (fun i => xs.getD i undef) (by rw [← q1, hxl]) hrow.2.1 hrow.2.2.1 hpos (fun hn i c p1 => ?_) (fun i c p1 => ?_))
    · have hi : i < xs.length := by rw [q1]; exact (List.getElem?_eq_some_iff.1 p1).1
      obtain ⟨e1, E, fz, hh⟩ := h4 (by have := hrow.2.1; omega)
      rw [cell_of_row w _ _ cur E fz hh, h3 i (by omega), List.getD_eq_getElem?_getD, List.getElem?_eq_getElem hi]
      rfl
    · have hi : i < xs.length := by rw [q1]; exact (List.getElem?_eq_some_iff.1 p1).1
      have hif : i < Fs.length := by rw [q2]; exact (List.getElem?_eq_some_iff.1 p1).1
      have := q4 i c _ _ p1 (List.getElem?_eq_getElem hi) (List.getElem?_eq_getElem hif)
      rw [flat_nil_of q3.symm (List.getElem?_eq_getElem hif)] at this
      rw [List.getD_eq_getElem?_getD, List.getElem?_eq_getElem hi]
      exact this
  | sl_f o g len e cs ho hg he h0 hl hf =>
    intro _ _ v hr
    obtain ⟨A, cap, rfl, r1, r2, r3, r4⟩ := inv_sl hr hg
    rw [he] at r3 r4
    obtain ⟨hcl, h2⟩ := h.ob o _ ho
    have nil : len = 0 → cap = 0 → Got s Φ w S' (.owns e len cs) (.slice A len cap) [o] := fun e1 e2 => by
      subst e1; subst e2
      obtain rfl : cs = [] := List.eq_nil_of_length_eq_zero (by rw [hl, Nat.zero_mul])
      exact got_plain (.owns e 0 [] A 0 [] [] [] #[] 0 (by simp) ⟨Nat.le_refl _, by simp [maxLen], .inl ⟨rfl, rfl, rfl⟩⟩ rfl rfl (fun i c u f h => by simp at h))
    rcases r4 with ⟨e1, e2⟩ | ⟨hA, hfit⟩
    · exact nil e1 e2
    · rcases h2 with ⟨h1, _, hp⟩ | ⟨cur, E, fz, Fs, hh, hz, hs, hb, hF, hct⟩
      · have e1 : cs.length = 0 := h1
        rw [hl] at e1
        rcases Nat.mul_eq_zero.1 e1 with e1 | e1
        · refine nil e1 ?_
          rw [hp] at hfit
          rcases Nat.eq_zero_or_pos cap with hc | hc
          · exact hc
          · have := Nat.mul_pos hc h0; omega
        · omega
      · refine ⟨Φ o, .owns e len cs A cap _ [(ρ o).blk] Fs cur (ρ o).base hl ⟨r1, r2, .inr ⟨_, E, fz, rfl, by rw [hA]; rfl, hh, hz, by rw [hs]; simpa using hfit⟩⟩ hct.1 (by rw [hF]; rfl) (fun i c u f p1 p2 p3 => nv_S hS (fr0_nv (all_get hf p1) (hct.2 i c u f p1 p2 p3))), (h.own o _ ho).1, fun b hb => ⟨o, by simp, by rw [ho]; rfl, hb⟩⟩
  | ptr_f o g cs ho hg hf h0 =>
    intro _ _ v hr
    obtain rfl := inv_ptr hr hg
    obtain ⟨hcl, h2⟩ := h.ob o _ ho
    rcases h2 with ⟨h1, _⟩ | ⟨cur, E, fz, Fs, hh, hz, hs, hb, hF, hct⟩
    · simp [Cont.len] at h1; subst h1; simp at h0
    · refine ⟨Φ o, .ownp cs (ρ o).blk (ρ o).base cur E fz _ Fs hh hz (by rw [hs]; exact hb) hct.1 hF (fun i c u f p1 p2 p3 => nv_S hS (fr0_nv (all_get hf p1) (hct.2 i c u f p1 p2 p3))), (h.own o _ ho).1, fun b hb => ⟨o, by simp, by rw [ho]; rfl, hb⟩⟩
  | ptr o g cs cs' own fro ho hg hsc h0 hm ih =>
    intro hfr hnd v hr
    obtain rfl := inv_ptr hr hg
    obtain ⟨hcl, h2⟩ := h.ob o _ ho
    rcases h2 with ⟨h1, _⟩ | ⟨cur, E, fz, Fs0, hh, hz, hs, hb, hF0, hct⟩
    · simp [Cont.len] at h1; subst h1; simp at h0
    · obtain ⟨us, hu1, hu2⟩ := list_of (Q := fun i u => cur[(ρ o).base + i]? = some u ∧ RV w S ρ s.sh (cs.getD i .bot) u []) cs.length (fun i hi => by
        obtain ⟨u, hu, hru⟩ := h.cell ho (i := i) hi (all_get hsc (getD_some hi))
        rw [cell_of_row w _ _ cur E fz hh] at hu
        exact ⟨u, hu, hru⟩)
      have hpr : PR w S ρ s.sh cs us := ⟨hu1, fun i c u p1 p2 => by
        have := (hu2 i u p2).2
        rw [List.getD_eq_getElem?_getD, p1] at this
        exact this⟩
      rw [List.nodup_cons] at hnd
      obtain ⟨F, k1, k2, k3⟩ := ih hfr hnd.2 hpr.tup
      obtain ⟨vs', Fs, e', q1, q2, q3, q4⟩ := nv_tup k1
      obtain rfl := tuple_inj e'
      subst q3
      have hF1 : ∀ b ∈ [(ρ o).blk], ∃ o' ∈ [o], (s.ob o').ct.isSome = true ∧ b ∈ Φ o' := by
        intro b hb
        obtain rfl : b = (ρ o).blk := by simpa using hb
        exact ⟨o, by simp, by rw [ho]; rfl, by rw [hF0]; simp⟩
      refine ⟨(ρ o).blk :: Fs.flatten, .ownp cs' (ρ o).blk (ρ o).base cur E fz _ Fs hh hz (by rw [hs, ← q1, hu1]; exact hb) q2 rfl (fun i c u f p1 p2 p3 => ?_), ?_, ?_⟩
      · have hi : i < us.length := by rw [q1]; exact (List.getElem?_eq_some_iff.1 p1).1
        have h5 := (hu2 i _ (List.getElem?_eq_getElem hi)).1
        rw [p2] at h5
        injection h5 with h5
        exact q4 i c u f p1 (by rw [List.getElem?_eq_getElem hi, h5]) p3
      · exact nodup_two h (o1 := [o]) (o2 := own) (F1 := [(ρ o).blk]) (by simpa using hnd) (by simp) k2 hF1 k3
      · intro b hb
        rcases List.mem_cons.1 hb with rfl | hb
        · exact ⟨o, by simp, by rw [ho]; rfl, by rw [hF0]; simp⟩
        · obtain ⟨o', ho', r⟩ := k3 b hb
          exact ⟨o', by simp [ho'], r⟩
  | agg cs cs' own fro hm ih =>
    intro hfr hnd v hr
    obtain ⟨vs, rfl, hl, hr⟩ := inv_agg hr
    obtain ⟨F, h1, h2, h3⟩ := ih hfr hnd (RV.tup0 hl hr)
    obtain ⟨vs', Fs, e, q1, q2, q3, q4⟩ := nv_tup h1
    obtain rfl := tuple_inj e
    exact ⟨F, .agg _ _ Fs F q1 q2 q3 q4, h2, h3⟩
  | tnil => intro _ _ v hr; obtain ⟨vs, rfl, hl, _⟩ := inv_tup hr; exact got_plain (RV.tup0 hl (fun i c u h => by simp at h))
  | cnv d d1 d2 own fro hm hc ih =>
    intro hfr hnd v hr
    obtain ⟨F, h1, h2, h3⟩ := ih hfr hnd hr
    exact ⟨F, hc _ _ _ _ h1, h2, h3⟩
  | tall ds hd =>
    intro _ _ v hr
    obtain ⟨vs, rfl, hl, hr⟩ := inv_tup hr
    exact got_plain (RV.tup0 hl (fun i c u h1 h2 => nv_S hS (pf1_nv (all_get hd h1) (hr i c u h1 h2)).2))
  | tcons d d' ds ds' o1 o2 f1 f2 hm hms ih ihs =>
    intro hfr hnd v hr
    obtain ⟨vs, rfl, hl, hr⟩ := inv_tup hr
    rcases vs with _ | ⟨u, us⟩
    · simp at hl
    · have hnd' := List.nodup_append.1 hnd
      obtain ⟨F1, k1, k2, k3⟩ := ih (fun o ho => hfr o (by simp [ho])) hnd'.1 (hr 0 d u rfl rfl)
      obtain ⟨F2, j1, j2, j3⟩ := ihs (fun o ho => hfr o (by simp [ho])) hnd'.2.1 (v := .tuple us.toArray) (RV.tup0 (by simpa using hl) (fun i c u h1 h2 => hr (i + 1) c u (by simpa using h1) (by simpa using h2)))
      obtain ⟨vs', Fs, e', q1, q2, q3, q4⟩ := nv_tup j1
      obtain rfl := tuple_inj e'
      subst q3
      refine ⟨F1 ++ Fs.flatten, .tup _ (u :: us) (F1 :: Fs) _ (by simpa using q1) (by simpa using q2) (by simp) (fun i c x f p1 p2 p3 => ?_), nodup_two h hnd k2 j2 k3 j3, fun b hb => ?_⟩
      · rcases i with _ | i
        · injection p1 with p1; injection p2 with p2; injection p3 with p3
          subst p1; subst p2; subst p3
          exact k1
        · exact q4 i c x f (by simpa using p1) (by simpa using p2) (by simpa using p3)
      · rcases List.mem_append.1 hb with hb | hb
        · obtain ⟨o', ho', r⟩ := k3 b hb; exact ⟨o', by simp [ho'], r⟩
        · obtain ⟨o', ho', r⟩ := j3 b hb; exact ⟨o', by simp [ho'], r⟩
  | tapp a a' b b' o1 o2 f1 f2 hm hms ih ihs =>
    intro hfr hnd v hr
    obtain ⟨vs, rfl, hl, hr⟩ := inv_tup hr
    have hl' : vs.length = a.length + b.length := by simpa using hl
    have hnd' := List.nodup_append.1 hnd
    obtain ⟨F1, k1, k2, k3⟩ := ih (fun o ho => hfr o (by simp [ho])) hnd'.1 (v := .tuple (vs.take a.length).toArray) (RV.tup0 (by rw [List.length_take]; omega) (fun i c u h1 h2 => by
      have hi := (List.getElem?_eq_some_iff.1 h1).1
      rw [List.getElem?_take, if_pos hi] at h2
      exact hr i c u (by rw [List.getElem?_append_left hi]; exact h1) h2))
    obtain ⟨F2, j1, j2, j3⟩ := ihs (fun o ho => hfr o (by simp [ho])) hnd'.2.1 (v := .tuple (vs.drop a.length).toArray) (RV.tup0 (by rw [List.length_drop]; omega) (fun i c u h1 h2 => by
      rw [List.getElem?_drop] at h2
      exact hr (a.length + i) c u (by rw [List.getElem?_append_right (by omega)]; simpa using h1) h2))
    obtain ⟨vs1, Fs1, e1, q1, q2, q3, q4⟩ := nv_tup k1
    obtain ⟨vs2, Fs2, e2, r1, r2, r3, r4⟩ := nv_tup j1
    have e1' := tuple_inj e1
    have e2' := tuple_inj e2
    subst e1'
    subst e2'
    subst q3
    subst r3
    have ha' : a'.length = a.length := by rw [← q1, List.length_take]; omega
    refine ⟨Fs1.flatten ++ Fs2.flatten, .tup _ vs (Fs1 ++ Fs2) _ (by rw [List.length_append, ← q1, ← r1, List.length_take, List.length_drop]; omega) (by simp [q2, r2]) (by simp) (fun i c x f p1 p2 p3 => ?_), nodup_two h hnd k2 j2 k3 j3, fun b hb => ?_⟩
    · by_cases hi : i < a'.length
      · rw [List.getElem?_append_left hi] at p1
        rw [List.getElem?_append_left (by omega)] at p3
        exact q4 i c x f p1 (by rw [List.getElem?_take, if_pos (by omega)]; exact p2) p3
      · rw [List.getElem?_append_right (by omega)] at p1
        rw [List.getElem?_append_right (by omega)] at p3
        refine r4 (i - a'.length) c x f p1 (by rw [List.getElem?_drop, ← p2]; congr 1; omega) (by rw [q2] at p3; exact p3)
    · rcases List.mem_append.1 hb with hb | hb
      · obtain ⟨o', ho', r⟩ := k3 b hb; exact ⟨o', by simp [ho'], r⟩
      · obtain ⟨o', ho', r⟩ := j3 b hb; exact ⟨o', by simp [ho'], r⟩
end
end Go.Proofs.Ytpmbdppppnbmnaa
