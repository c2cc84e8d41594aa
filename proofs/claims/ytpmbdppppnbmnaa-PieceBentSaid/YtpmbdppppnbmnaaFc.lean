/- Contracts of functions without names, and the call by one. Over any program. -/
import Derived.Test.YtpmbdppppnbmnaaCon
namespace Go.Proofs.Ytpmbdppppnbmnaa
open Go Go.RowKit
set_option linter.unusedVariables false
set_option linter.unusedSimpArgs false

/-- It reads no read-only memory. -/
def D.nr0 : D → Bool
  | .bot | .bool _ | .int _ _ | .u8 _ | .u32 _ | .str _ | .nilP | .nilS | .nilF | .fn _ | .ownb _ => true
  | _ => false
def D.nr1 : D → Bool
  | .aggb _ => true
  | .agg cs => cs.all D.nr0
  | .owns _ _ cs => cs.all D.nr0
  | .ownp cs => cs.all D.nr0
  | d => d.nr0
def D.nr : D → Bool
  | .tup cs => cs.all D.nr1
  | d => d.nr1
section
variable {w : World} {S S' : Nat → Prop} {ρ : Nat → Pl} {H : Nat → Sh}
theorem nr0_S {d : D} (hd : d.nr0 = true) {v : Value} {F : List Nat} (h : RV w S ρ H d v F) : RV w S' ρ H d v F := by
  cases h <;> first | (cases hd; done) | (constructor <;> assumption; done) | constructor
theorem nr1_S {d : D} (hd : d.nr1 = true) {v : Value} {F : List Nat} (h : RV w S ρ H d v F) : RV w S' ρ H d v F := by
  by_cases h0 : d.nr0 = true
  · exact nr0_S h0 h
  · cases h with
    | aggb l => exact .aggb l
    | owns s n cs A cap F F0 Fs cur off hl h hf hF hr => exact .owns s n cs A cap F F0 Fs cur off hl h hf hF (fun i c u f h1 h2 h3 => nr0_S (all_get hd h1) (hr i c u f h1 h2 h3))
    | ownp cs b base cur E fz F Fs hh hz hs hf hF hr => exact .ownp cs b base cur E fz F Fs hh hz hs hf hF (fun i c u f h1 h2 h3 => nr0_S (all_get hd h1) (hr i c u f h1 h2 h3))
    | agg cs vs Fs F hv hf hF hr => exact .agg cs vs Fs F hv hf hF (fun i c u f h1 h2 h3 => nr0_S (all_get hd h1) (hr i c u f h1 h2 h3))
    | _ => first | exact absurd hd h0 | (cases hd; done)
theorem nr_S {d : D} (hd : d.nr = true) {v : Value} {F : List Nat} (h : RV w S ρ H d v F) : RV w S' ρ H d v F := by
  by_cases h0 : d.nr1 = true
  · exact nr1_S h0 h
  · cases h with
    | tup cs vs Fs F hv hf hF hr => exact .tup cs vs Fs F hv hf hF (fun i c u f h1 h2 h3 => nr1_S (all_get hd h1) (hr i c u f h1 h2 h3))
    | _ => first | exact absurd hd h0 | (cases hd; done)
end

def GlOk (G : Nat → Option D) (w : World) (S : Nat → Prop) : Prop := ∀ g cs, G g = some cs → NV w S cs (.pointer (some ⟨g, 0, none⟩)) []
/-- What a call leaves: a value that reads as res; the receiver (where outs says so) holds outs; all else is as it was. -/
def FCPost (w : World) (S : Nat → Prop) (v0 : Value) (Fin : List Nat) (res : D) (outs : Option (List D)) (e : Ending) (w' : World) : Prop :=
  ∃ v F Fo S', e = .returned v ∧ w'.os = w.os ∧ w'.tape = w.tape ∧ w'.output = w.output ∧ w.heap.size ≤ w'.heap.size ∧ Szs w w' ∧
    (∀ b, b < w.heap.size → b ∉ Fin → w'.heap[b]? = w.heap[b]?) ∧ (∀ b, S b → S' b) ∧ (∀ b, S' b → b < w'.heap.size ∧ (S b ∨ w.heap.size ≤ b ∨ b ∈ Fin)) ∧ SOk w' S' ∧
    NV w' S' res v F ∧ (match outs with | none => Fo = [] | some cs => NV w' S' (.ownp cs) v0 Fo) ∧ (F ++ Fo).Nodup ∧ ∀ b ∈ F ++ Fo, ¬ S' b ∧ b < w'.heap.size ∧ (w.heap.size ≤ b ∨ b ∈ Fin)
/-- THE CONTRACT of a function: called with what reads as ins it answers what reads as res. -/
def FC (P : Program) (G : Nat → Option D) (f : Nat) (ins : List D) (res : D) (outs : Option (List D)) : Prop :=
  ∀ (w : World) (S : Nat → Prop) (vs : List Value) (Fs : List (List Nat)), SOk w S → GlOk G w S → vs.length = ins.length → Fs.length = ins.length →
    (∀ (i : Nat) (d : D) (v : Value) (F : List Nat), ins[i]? = some d → vs[i]? = some v → Fs[i]? = some F → NV w S d v F) → Fs.flatten.Nodup → (∀ b ∈ Fs.flatten, ¬ S b ∧ b < w.heap.size) →
    Calls P f vs.toArray w (FCPost w S (vs.getD 0 undef) Fs.flatten res outs)

/-- The state behind a call, before its answer is taken in. -/
def outS (s : St) (outs : Option (List D)) (own : List Nat) : St :=
  match outs, own with
  | some cs, [o] => s.lay o ⟨s.sh o, some (.cells cs)⟩
  | _, _ => s

section
variable {C : Ctx} {s s' : St} {ρ : Nat → Pl} {S S' : Nat → Prop} {Φ : Nat → List Nat} {w w' : World}
theorem RepW.congr (h : RepW C s ρ S Φ w) (e : ∀ o, s'.ob o = s.ob o) (ed : s'.dk = s.dk) : RepW C s' ρ S Φ w := by
  have es : s'.sh = s.sh := by funext o; unfold St.sh; rw [e]
  exact ⟨h.os, h.tape, h.output, h.size, h.szs, h.fr, h.s0, h.s1, h.sc, by rw [es]; exact h.gl, fun o c hc => by rw [es]; exact h.ob o c (by rw [← e]; exact hc), by rw [es]; exact h.rv, by rw [ed]; exact h.dk, by rw [ed]; exact h.dkn, fun o c hc => by rw [ed]; exact h.own o c (by rw [← e]; exact hc),
    fun o o' c c' hc hc' => h.dis o o' c c' (by rw [← e]; exact hc) (by rw [← e]; exact hc')⟩
/-- More blocks are read only from now on. -/
theorem RepW.grow (h : RepW C s ρ S Φ w) (h1 : ∀ b, S b → S' b) (h2 : ∀ b, S' b → b < w.heap.size ∧ (C.S0 b ∨ C.w0.heap.size ≤ b ∨ b ∈ C.M)) (h3 : ∀ o c, (s.ob o).ct = some c → ∀ b ∈ Φ o, ¬ S' b) (h4 : ∀ r ∈ s.dk, ¬ S' r) (h5 : SOk w S') :
    RepW C s ρ S' Φ w ∧ ∀ d v, RV w S ρ s.sh d v [] → RV w S' ρ s.sh d v [] := by
  have hm : ∀ {d v F}, RV w S ρ s.sh d v F → RV w S' ρ s.sh d v F := fun hr => hr.mono h1 (fun _ _ => rfl) (fun _ => ⟨Nat.le_refl _, fun _ => ⟨rfl, rfl⟩⟩) (fun _ _ => rfl)
  exact ⟨⟨h.os, h.tape, h.output, h.size, h.szs, h.fr, fun b hb => h1 b (h.s0 b hb), h2, h5, fun g cs hg => hm (h.gl g cs hg),
    fun o c hc => (h.ob o c hc).mono h1 (fun _ _ => rfl) (fun _ => ⟨Nat.le_refl _, fun _ => ⟨rfl, rfl⟩⟩) (fun _ _ => rfl), fun d v hv => hm (h.rv d v hv), h.dk, ⟨h.dkn.1, fun r hr => ⟨(h.dkn.2 r hr).1, h4 r hr⟩⟩,
    fun o c hc => ⟨(h.own o c hc).1, fun b hb => ⟨h3 o c hc b hb, ((h.own o c hc).2 b hb).2⟩⟩, h.dis⟩, fun d v hr => hm hr⟩
/-- The world goes on, all that was there as it was. -/
theorem RepW.ext (h : RepW C s ρ S Φ w) (hos : w'.os = w.os) (htape : w'.tape = w.tape) (hout : w'.output = w.output) (hsz : w.heap.size ≤ w'.heap.size) (hw : ∀ b, b < w.heap.size → w'.heap[b]? = w.heap[b]?) :
    RepW C s ρ S Φ w' ∧ ∀ d v, RV w S ρ s.sh d v [] → RV w' S ρ s.sh d v [] := by
  have hwS : ∀ b, S b → w'.heap[b]? = w.heap[b]? := fun b hb => hw b (h.s1 b hb).1
  have hm : ∀ {d v}, RV w S ρ s.sh d v [] → RV w' S ρ s.sh d v [] := fun hr => hr.mono (fun _ h => h) hwS (fun _ => ⟨Nat.le_refl _, fun _ => ⟨rfl, rfl⟩⟩) (by simp)
  exact ⟨⟨hos.trans h.os, htape.trans h.tape, hout.trans h.output, Nat.le_trans h.size hsz, h.szs.trans (Szs.same hw), fun b hb hM => (hw b (Nat.lt_of_lt_of_le hb h.size)).trans (h.fr b hb hM), h.s0, fun b hb => ⟨Nat.lt_of_lt_of_le (h.s1 b hb).1 hsz, (h.s1 b hb).2⟩, h.sc.same hwS, fun g cs hg => hm (h.gl g cs hg),
    fun o c hc => (h.ob o c hc).mono (fun _ h => h) hwS (fun _ => ⟨Nat.le_refl _, fun _ => ⟨rfl, rfl⟩⟩) (fun b hb => hw b ((h.own o c hc).2 b hb).2.1), fun d v hv => hm (h.rv d v hv), fun r hr => (hw r (Array.getElem?_eq_some_iff.1 (h.dk r hr)).1).trans (h.dk r hr), h.dkn,
    fun o c hc => ⟨(h.own o c hc).1, fun b hb => ⟨((h.own o c hc).2 b hb).1, Nat.lt_of_lt_of_le ((h.own o c hc).2 b hb).2.1 hsz, ((h.own o c hc).2 b hb).2.2⟩⟩, h.dis⟩, fun d v hr => hm hr⟩
/-- A block that is read only while a call runs. -/
def Lent (s : St) (ρ : Nat → Pl) (S : Nat → Prop) (Φ : Nat → List Nat) (fro : List Nat) (b : Nat) : Prop := S b ∨ ∃ o ∈ fro, (s.ob o).ct.isSome = true ∧ b ∈ Φ o ∧ b = (ρ o).blk
theorem lent_ok (h : RepW C s ρ S Φ w) (fro : List Nat) : ∀ o ∈ fro, ∀ c, (s.ob o).ct = some c → 0 < c.len → Lent s ρ S Φ fro (ρ o).blk := by
  intro o ho c hc hl
  obtain ⟨_, h2⟩ := h.ob o c hc
  rcases h2 with ⟨h1, _⟩ | ⟨cur, E, fz, Fs, hh, hz, hs, hb, hF, hct⟩
  · omega
  · exact .inr ⟨o, ho, by rw [hc]; rfl, by rw [hF]; simp, rfl⟩
theorem lent_lt (h : RepW C s ρ S Φ w) {fro : List Nat} {b : Nat} (hb : Lent s ρ S Φ fro b) : b < w.heap.size ∧ (C.S0 b ∨ C.w0.heap.size ≤ b ∨ b ∈ C.M) := by
  rcases hb with hb | ⟨o, ho, hl, hb, _⟩
  · exact h.s1 b hb
  · obtain ⟨c, hc⟩ := Option.isSome_iff_exists.1 hl
    have := (h.own o c hc).2 b hb
    exact ⟨this.2.1, .inr this.2.2.1⟩
theorem lent_c (h : RepW C s ρ S Φ w) (fro : List Nat) : SOk w (Lent s ρ S Φ fro) := by
  rintro b (hb | ⟨o, ho, hl, hb, rfl⟩)
  · exact h.sc b hb
  · obtain ⟨c, hc⟩ := Option.isSome_iff_exists.1 hl
    obtain ⟨_, h2⟩ := h.ob o c hc
    rcases h2 with ⟨_, h1, _⟩ | ⟨cur, E, fz, Fs, hh, _⟩
    · rw [h1] at hb; cases hb
    · exact ⟨cur, E, fz, hh⟩
theorem lent_own (h : RepW C s ρ S Φ w) {own fro : List Nat} (hd : ∀ o ∈ own, o ∉ fro) {b o : Nat} (ho : o ∈ own) (hl : (s.ob o).ct.isSome = true) (hb : b ∈ Φ o) : ¬ Lent s ρ S Φ fro b := by
  obtain ⟨c, hc⟩ := Option.isSome_iff_exists.1 hl
  rintro (h1 | ⟨o', ho', hl', hb', _⟩)
  · exact ((h.own o c hc).2 b hb).1 h1
  · obtain ⟨c', hc'⟩ := Option.isSome_iff_exists.1 hl'
    exact h.dis o o' c c' hc hc' (fun e => hd o ho (e ▸ ho')) b hb hb'

/-- THE CALL by a contract. -/
theorem call_ok (h : RepW C s ρ S Φ w) {f : Nat} {ins : List D} {res : D} {outs : Option (List D)} (fc : FC C.P C.G f ins res outs) {ds : List D} {vs : List Value} (hp : PR w S ρ s.sh ds vs) {own fro : List Nat} (hm : Mat s (.tup ds) (.tup ins) own fro) (hnd : own.Nodup) (hdis : ∀ o ∈ own, o ∉ fro)
    (hnr : fro = [] ∨ (res.nr = true ∧ ∀ cs, outs = some cs → cs.all D.nr0 = true)) (had : res.ad = true)
    (hout : match outs with | none => own = [] | some cs => ∃ o g ds', own = [o] ∧ ds = .ptr o g 0 :: ds' ∧ g = (s.sh o).gen ∧ (s.ob o).ct.isSome = true ∧ cs.all D.fr0 = true ∧ 0 < cs.length ∧ (s.sh o).clen = cs.length) (t : Nat) :
    Calls C.P f vs.toArray w fun e w' => ∃ v ρ' S' Φ', e = .returned v ∧ RepW C (adopt (outS s outs own) t res).2 ρ' S' Φ' w' ∧ (∀ d v, RV w S ρ s.sh d v [] → RV w' S' ρ' (adopt (outS s outs own) t res).2.sh d v []) ∧ RV w' S' ρ' (adopt (outS s outs own) t res).2.sh (adopt (outS s outs own) t res).1 v [] := by
  obtain ⟨F, k1, k2, k3⟩ := hm.sound h (S' := Lent s ρ S Φ fro) (fun b hb => .inl hb) (lent_ok h fro) hnd hp.tup
  obtain ⟨vs', Fs, e', q1, q2, q3, q4⟩ := nv_tup k1
  obtain rfl := tuple_inj e'
  subst q3
  have hgl : GlOk C.G w (Lent s ρ S Φ fro) := fun g cs hg => nv_S (fun b hb => .inl hb) (pf0_nv (C.gp g cs hg) (h.gl g cs hg)).2
  refine (fc w (Lent s ρ S Φ fro) vs Fs (lent_c h fro) hgl q1 q2 q4 k2 (fun b hb => ?_)).mono ?_
  · obtain ⟨o, ho, hl, hbo⟩ := k3 b hb
    obtain ⟨c, hc⟩ := Option.isSome_iff_exists.1 hl
    exact ⟨lent_own h hdis ho hl hbo, ((h.own o c hc).2 b hbo).2.1⟩
  rintro e w' ⟨v, F, Fo, S', rfl, hos, htape, hoo, hsz, hszs, hfr, hS1, hS2, hSc, hres, hou, hnd2, hF⟩
  -- the read-only blocks from now on
  obtain ⟨Sn, p1, p2, p3, p4⟩ : ∃ Sn : Nat → Prop, (∀ b, S b → Sn b) ∧ (∀ b, Sn b → S' b ∧ (S b ∨ w.heap.size ≤ b ∨ b ∈ Fs.flatten)) ∧ NV w' Sn res v F ∧ (∀ cs, outs = some cs → NV w' Sn (.ownp cs) (vs.getD 0 undef) Fo) := by
    rcases hnr with rfl | ⟨n1, n2⟩
    · refine ⟨S', fun b hb => hS1 b (.inl hb), fun b hb => ⟨hb, ?_⟩, hres, fun cs hc => by subst hc; exact hou⟩
      rcases (hS2 b hb).2 with (h1 | ⟨o, ho, _⟩) | h1
      · exact .inl h1
      · cases ho
      · exact .inr h1
    · refine ⟨S, fun _ h => h, fun b hb => ⟨hS1 b (.inl hb), .inl hb⟩, nr_S n1 hres, fun cs hc => ?_⟩
      subst hc
      exact nr1_S (show (D.ownp cs).nr1 = true from n2 cs rfl) hou
  have hgot : ∀ b ∈ Fs.flatten, ∃ o ∈ own, (s.ob o).ct.isSome = true ∧ b ∈ Φ o := k3
  -- the world goes on
  have key : ∃ s1 ρ1 Φ1, (∀ o, (outS s outs own).ob o = s1.ob o) ∧ (outS s outs own).dk = s1.dk ∧ RepW C s1 ρ1 Sn Φ1 w' ∧ (∀ d v, RV w S ρ s.sh d v [] → RV w' Sn ρ1 s1.sh d v []) ∧ Aside C s1 Sn Φ1 w' (F ++ []) := by
    rcases outs with _ | cs
    · subst hout
      have hF0 : Fs.flatten = [] := List.eq_nil_iff_forall_not_mem.2 fun b hb => by obtain ⟨o, ho, _⟩ := hgot b hb; cases ho
      rw [hF0] at hfr p2 hF
      obtain ⟨r1, r2⟩ := h.ext hos htape hoo hsz (fun b hb => hfr b hb (by simp))
      have hnoS : ∀ o c, (s.ob o).ct = some c → ∀ b ∈ Φ o, ¬ Sn b := fun o c hc b hb hSn => by
        rcases (p2 b hSn).2 with h1 | h1 | h1
        · exact ((h.own o c hc).2 b hb).1 h1
        · have := ((h.own o c hc).2 b hb).2.1; omega
        · cases h1
      obtain ⟨t1, t2⟩ := r1.grow p1 (fun b hb => ⟨(hS2 b (p2 b hb).1).1, by
        rcases (p2 b hb).2 with h1 | h1 | h1
        · exact (h.s1 b h1).2
        · exact .inr (.inl (Nat.le_trans h.size h1))
        · cases h1⟩) hnoS (fun r hr hSn => by
        rcases (p2 r hSn).2 with h1 | h1 | h1
        · exact (h.dkn.2 r hr).2 h1
        · have := (Array.getElem?_eq_some_iff.1 (h.dk r hr)).1; omega
        · cases h1) (fun b hb => hSc b (p2 b hb).1)
      have hFo : Fo = [] := hou
      subst hFo
      rw [List.append_nil] at hnd2 hF
      refine ⟨s, ρ, Φ, fun _ => rfl, rfl, t1, fun d v hr => t2 d v (r2 d v hr), by simpa using hnd2, fun b hb => ?_⟩
      obtain ⟨f1, f2, f3⟩ := hF b (by simpa using hb)
      have hge : w.heap.size ≤ b := by
        rcases f3 with f3 | f3
        · exact f3
        · cases f3
      refine ⟨fun hb' => f1 (p2 b hb').1, f2, .inl (Nat.le_trans h.size hge), fun e => by have := (Array.getElem?_eq_some_iff.1 (h.dk b e)).1; omega, fun o c hc hm => ?_⟩
      have := ((h.own o c hc).2 b hm).2.1
      omega
    · obtain ⟨o, g, ds', rfl, rfl, rfl, hlive, hcf, hc0, hclen⟩ := hout
      obtain ⟨c, hc⟩ := Option.isSome_iff_exists.1 hlive
      have hsub : ∀ b ∈ Fs.flatten, b ∈ Φ o := fun b hb => by
        obtain ⟨o', ho', _, hb'⟩ := hgot b hb
        obtain rfl : o' = o := by simpa using ho'
        exact hb'
      have hown := h.own o c hc
      -- (1) the receiver is given up
      obtain ⟨a1, a2⟩ := h.one (w' := w') o ⟨s.sh o, none⟩ (ρ o) [] hos htape hoo hsz hszs (.inr ⟨rfl, rfl⟩) (fun b hb hn => hfr b hb (fun hm => hn hlive (hsub b hm))) (fun c' hc' => by cases hc') (fun hh => by cases hh)
      rw [upd_self] at a1 a2
      have hob1 : ∀ x c', ((s.lay o ⟨s.sh o, none⟩).ob x).ct = some c' → x ≠ o ∧ (s.ob x).ct = some c' := fun x c' hx => by
        rw [St.ob_lay] at hx
        split at hx
        · cases hx
        · exact ⟨by assumption, hx⟩
      have hsh1 : (s.lay o ⟨s.sh o, none⟩).sh = s.sh := by rw [St.sh_lay]; exact upd_self s.sh o
      have hother : ∀ x c', x ≠ o → (s.ob x).ct = some c' → ∀ b ∈ Φ x, ¬ Sn b := fun x c' hx hc' b hb hSn => by
        rcases (p2 b hSn).2 with h1 | h1 | h1
        · exact ((h.own x c' hc').2 b hb).1 h1
        · have := ((h.own x c' hc').2 b hb).2.1; omega
        · exact h.dis x o c' c hc' hc hx b hb (hsub b h1)
      -- (2) more is read only
      obtain ⟨b1, b2⟩ := a1.grow p1 (fun b hb => ⟨(hS2 b (p2 b hb).1).1, by
        rcases (p2 b hb).2 with h1 | h1 | h1
        · exact (h.s1 b h1).2
        · exact .inr (.inl (Nat.le_trans h.size h1))
        · exact .inr (hown.2 b (hsub b h1)).2.2.1⟩) (fun x c' hx b hb => by
        obtain ⟨hne, hx'⟩ := hob1 x c' hx
        rw [upd_other _ _ _ hne] at hb
        exact hother x c' hne hx' b hb) (fun r hr hSn => by
        rcases (p2 r hSn).2 with h1 | h1 | h1
        · exact (h.dkn.2 r hr).2 h1
        · have := (Array.getElem?_eq_some_iff.1 (h.dk r hr)).1; omega
        · exact (hown.2 r (hsub r h1)).2.2.2 hr) (fun b hb => hSc b (p2 b hb).1)
      -- (3) the receiver is taken back
      have hv0 : vs.getD 0 undef = .pointer (some ⟨(ρ o).blk, (ρ o).base + 0, none⟩) := by
        rcases vs with _ | ⟨v0, vs⟩
        · have := hp.1; simp at this
        · exact inv_ptr (hp.2 0 _ v0 rfl rfl) rfl
      have hnv := p4 cs rfl
      rw [hv0] at hnv
      obtain ⟨hcl0, hcase⟩ := h.ob o c hc
      rcases hcase with ⟨z1, _⟩ | ⟨cur, E, fz, Fs0, hh, hz, hs, hbz, hF0, hct⟩
      · omega
      · obtain ⟨cur', E', fz', hh', hsz'⟩ := hszs _ _ _ _ hh
        have hadd : ∀ b ∈ F ++ Fo, ¬ Sn b ∧ b < w'.heap.size ∧ (C.w0.heap.size ≤ b ∨ b ∈ C.M) ∧ b ∉ s.dk ∧ ∀ x c', x ≠ o → (s.ob x).ct = some c' → b ∉ Φ x := fun b hb => by
          obtain ⟨f1, f2, f3⟩ := hF b hb
          refine ⟨fun hb' => f1 (p2 b hb').1, f2, ?_, ?_, fun x c' hx hc' hm => ?_⟩
          · rcases f3 with f3 | f3
            · exact .inl (Nat.le_trans h.size f3)
            · exact (hown.2 b (hsub b f3)).2.2.1
          · rcases f3 with f3 | f3
            · intro e; have := (Array.getElem?_eq_some_iff.1 (h.dk b e)).1; omega
            · exact (hown.2 b (hsub b f3)).2.2.2
          · rcases f3 with f3 | f3
            · have := ((h.own x c' hc').2 b hm).2.1; omega
            · exact h.dis x o c' c hc' hc hx b hm (hsub b f3)
        have hnd3 := List.nodup_append.1 hnd2
        cases hnv with
        | ownp _ bb base cur2 E2 fz2 F2 Fs2 hh2 hz2 hs2 hf2 hF2 hr2 =>
          rw [Nat.add_zero] at *
          rw [hh'] at hh2
          injection hh2 with hh2
          injection hh2 with e1 e2 e3
          subst e1; subst e3
          obtain ⟨d1, d2⟩ := b1.one (w' := w') o ⟨s.sh o, some (.cells cs)⟩ (ρ o) Fo rfl rfl rfl (Nat.le_refl _) (Szs.refl _) (.inr ⟨by rw [hsh1], rfl⟩) (fun _ _ _ => rfl) (fun c' hc' => by
            have e : Cont.cells cs = c' := by simpa using hc'
            subst e
            refine ⟨hclen, .inr ⟨cur', E', _, Fs2, hh', hz2, by rw [hsz']; exact hs, by rw [← hs, ← hsz']; exact hs2, hF2, hf2, fun i c u f m1 m2 m3 => nv_in (all_get hcf m1) (hr2 i c u f m1 m2 m3)⟩⟩) (fun _ => ⟨hnd3.2.1, fun b hb => by
            obtain ⟨g1, g2, g3, g4, g5⟩ := hadd b (List.mem_append_right _ hb)
            refine ⟨g1, g2, g3, g4, fun x c' hx hc' => ?_⟩
            obtain ⟨_, hc''⟩ := hob1 x c' hc'
            rw [upd_other _ _ _ hx]
            exact g5 x c' hx hc''⟩)
          refine ⟨(s.lay o ⟨s.sh o, none⟩).lay o ⟨s.sh o, some (.cells cs)⟩, _, _, fun x => ?_, rfl, d1, fun d v hr => d2 d v (b2 d v (a2 d v hr)), by simpa using hnd3.1, fun b hb => ?_⟩
          · show (s.lay o ⟨s.sh o, some (.cells cs)⟩).ob x = _
            rw [St.ob_lay, St.ob_lay, St.ob_lay]
            split <;> rfl
          · rw [List.append_nil] at hb
            obtain ⟨g1, g2, g3, g4, g5⟩ := hadd b (List.mem_append_left _ hb)
            refine ⟨g1, g2, g3, g4, fun x c' hc' => ?_⟩
            by_cases hx : x = o
            · subst hx
              rw [upd_same]
              exact fun hm => hnd3.2.2 b hb b hm rfl
            · rw [upd_other _ _ _ hx, upd_other _ _ _ hx]
              rw [St.ob_lay, if_neg hx] at hc'
              exact g5 x c' hx (hob1 x c' hc').2
  obtain ⟨s1, ρ1, Φ1, e1, ed, e2, e3, e4⟩ := key
  have es : (outS s outs own).sh = s1.sh := by funext o; unfold St.sh; rw [e1]
  have e2' := e2.congr e1 ed
  obtain ⟨ρ2, Φ2, g1, g2, g3, _⟩ := adopt_ok e2' t had (F := F) (X := []) (v := v) (by
    refine ⟨e4.1, fun b hb => ?_⟩
    obtain ⟨i1, i2, i3, i4, i5⟩ := e4.2 b hb
    exact ⟨i1, i2, i3, by rw [ed]; exact i4, fun o c hc => i5 o c (by rw [← e1]; exact hc)⟩) p3
  exact ⟨v, ρ2, Sn, Φ2, rfl, g1, fun d u hr => g2 d u (by rw [es]; exact e3 d u hr), g3⟩
end
end Go.Proofs.Ytpmbdppppnbmnaa
