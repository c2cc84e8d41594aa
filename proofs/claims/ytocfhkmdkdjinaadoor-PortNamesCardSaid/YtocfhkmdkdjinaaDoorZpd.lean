/- What the claim leans on, text Zpd: Po4, Frz, Rcs. No condition beyond what each lemma states. -/
import Derived.Test.YtocfhkmdkdjinaaDoorZd
import Derived.Test.YtocfhkmdkdjinaaDoorZt
import Derived.Test.YtocfhkmdkdjinaaDoorZpb
import Derived.Test.YtocfhkmdkdjinaaDoorZpc
import Derived.Test.YtocfhkmdkdjinaaDoorZrd

/- port: attrs. Printed by wp.py. -/
namespace Go.Proofs.YtocfhkmdkdjinaaDoor
open Go Go.RowKit
set_option linter.unusedVariables false
set_option linter.unusedSimpArgs false
set_option maxRecDepth 100000
set_option maxHeartbeats 4000000
attribute [local irreducible] inR VC RG VCn sq inS lq nq jq Wk
attribute [local simp] portC_len
/-- What the server is asked by. -/
def nmA (nm : List UInt8) : List (Int × List UInt8) := if 0 < nm.length then [(1, nm)] else []
def mkA (mk : List UInt8) (mh : Bool) : List (Int × List UInt8) := if mh = true then [(24, mk)] else []
def atsL (nm mk : List UInt8) (mh : Bool) (b : List UInt8) : List (Int × List UInt8) := nmA nm ++ (mkA mk mh ++ spL b (List.range (pcN b.length 253)))
theorem atR_nil : atR [] = [] := rfl
theorem nmA_y {nm : List UInt8} (h : 0 < nm.length) : nmA nm = [(1, nm)] := if_pos h
theorem nmA_n {nm : List UInt8} (h : ¬ 0 < nm.length) : nmA nm = [] := if_neg h
theorem atR_1 (k : Int) (v : List UInt8) (M : List (Int × List UInt8)) : D.int .i64 k :: D.rob v :: atR M = atR ((k, v) :: M) := rfl
/-- Bytes that stand among other cells, lent. -/
theorem mat_rbc {s : St} {o g off len : Nat} {cs : List D} {l : List UInt8} (ho : (s.ob o).ct = some (.cells cs)) (hg : g = (s.sh o).gen) (he : (s.sh o).esz = 1) (hl : l.length = len) (e : (cs.drop off).take len = l.map D.u8) : Mat s (.sl o g off len) (.rob l) [] [o] := by
  refine .cnv _ (.ros 1 len (l.map D.u8)) _ _ _ (.sl_rs o g off len 1 cs (l.map D.u8) [] ho hg he (by decide) (by rw [Nat.mul_one, e]; exact List.all_eq_true.2 fun d hd => by obtain ⟨x, -, rfl⟩ := List.mem_map.1 hd; rfl) (by rw [Nat.mul_one, e]; exact .tall _ (List.all_eq_true.2 fun d hd => by obtain ⟨x, -, rfl⟩ := List.mem_map.1 hd; rfl))) (fun w S v F hr => ?_)
  cases hr with
  | ros _ _ _ A cap b off us hl' hn hm hA hc hr =>
    refine .rob l A len cap ⟨hl, hn, hm, fun h0 => ?_⟩
    obtain ⟨rfl, hb⟩ := hA h0
    refine ⟨b, off, rfl, hb, fun i hi => ?_⟩
    have hi2 : (l.map D.u8)[i]? = some (.u8 (gb l i)) := by
      rw [List.getElem?_map, List.getElem?_eq_getElem (by omega)]
      simp [gb, List.getD_eq_getElem?_getD, List.getElem?_eq_getElem (show i < l.length by omega)]
    rw [hc h0 i _ hi2, inv_u8 (hr i _ hi2)]

namespace Upattrs_fc
theorem U : type_of% (@drop_rep UInt8) ∧ type_of% (@drop_rep D) ∧ type_of% (@List.take_zero UInt8) ∧ type_of% (@List.take_zero D) ∧ type_of% @q16_take ∧ type_of% @q16_len ∧ type_of% @q16_fold ∧ type_of% @q16_map ∧ type_of% @decL ∧ type_of% @decI ∧ type_of% @atR_len ∧ type_of% @atO_len ∧ type_of% @atR_sc ∧ type_of% @atR_tk := ⟨(@drop_rep UInt8), (@drop_rep D), (@List.take_zero UInt8), (@List.take_zero D), @q16_take, @q16_len, @q16_fold, @q16_map, @decL, @decI, @atR_len, @atO_len, @atR_sc, @atR_tk⟩
end Upattrs_fc
open Upattrs_fc
theorem pattrs_fc (S : List UInt8) (T W st id n : Int) (au nm mk : List UInt8) (mh : Bool) (sd : List UInt8) (tr il : Int) (nn b : List UInt8) (hb : b.length ≤ 100000) : FC Tryd.prog GE 94 [.ownp (portC S T W st id n au nm mk mh sd tr il), .rob nn, .rob b] (.owns 2 (atsL nn mk mh b).length (atR (atsL nn mk mh b))) (some (portC S T W st id n au nm mk mh sd tr il)) := by
  unfold portC
  refine fo_ 32 [6] ti_eq gpE Tryd.func94 (fun C hE hm hP hr9 hrn => ?_)
  have hat : atsL nn mk mh b = nmA nn ++ (mkA mk mh ++ spL b (List.range (pcN b.length 253))) := rfl
  have spf := split_fc b (by omega)
  have hPl : (spL b (List.range (pcN b.length 253))).length ≤ 1000 := by rw [spL_len, List.length_range]; unfold pcN; omega
  generalize spL b (List.range (pcN b.length 253)) = P at *
  obtain ⟨Q, hQ⟩ : ∃ Q, Q = atsL nn mk mh b := ⟨_, rfl⟩
  rw [← hQ] at hat ⊢
  refine vs ?_
  refine R_ hE ?_
  refine sq_n ?_
  refine vs ?_
  refine R_ hE ?_
  refine sq_n ?_
  refine VC.weak ?_ (kniln 7 960 2 (g := 1) (c := .cells []) rfl rfl rfl)
  by_cases hn : 0 < nn.length
  · rw [nmA_y hn] at hat
    refine A_ ?_
    refine C_ hE (fun hc => ?_) (fun hc => ?_) <;> (try (exfalso; omega))
    refine A_ ?_
    cases mh
    · rw [show mkA mk false = [] from rfl] at hat
      refine A_ ?_
      first | refine O_ ?_ | refine OD_ hm ?_
      refine G_ 2 hE ?_
      refine rc_ hE hP (spf) Tryd.func46 ?_ (hm := by exact ma2_) (hnr := by exact nrt2_) (had := by exact adt2_)
      refine rg_w (kfreeze 30 (by exact rfl) (by exact atO_fr P) (by exact atO_frz P)) ?_
      refine AO_ hE ?_
      refine G_ 200 hE ?_
      first | refine rz ?_ | refine ZD_ ?_
      refine A_ ?_
      have hat2 : ((1, nn) :: P : List (Int × List UInt8)) = Q := hat.symm
      have hQl : 1 + P.length = Q.length := by rw [← hat2]; simp; try omega
      rw [atR_1, hat2, hQl]
      exact retr_ (h := by exact ma3_)
    · rw [show mkA mk true = [(24, mk)] from rfl] at hat
      refine A_ ?_
      first | refine O_ ?_ | refine OD_ hm ?_
      refine G_ 2 hE ?_
      refine rc_ hE hP (spf) Tryd.func46 ?_ (hm := by exact ma2_) (hnr := by exact nrt2_) (had := by exact adt2_)
      refine rg_w (kfreeze 30 (by exact rfl) (by exact atO_fr P) (by exact atO_frz P)) ?_
      refine AO_ hE ?_
      refine G_ 200 hE ?_
      first | refine rz ?_ | refine ZD_ ?_
      refine A_ ?_
      have hat2 : ((1, nn) :: (24, mk) :: P : List (Int × List UInt8)) = Q := hat.symm
      have hQl : 2 + P.length = Q.length := by rw [← hat2]; simp; try omega
      rw [atR_1, atR_1, hat2, hQl]
      exact retr_ (h := by exact ma3_)
  · rw [nmA_n hn] at hat
    refine A_ ?_
    refine C_ hE (fun hc => ?_) (fun hc => ?_) <;> (try (exfalso; omega))
    refine A_ ?_
    cases mh
    · rw [show mkA mk false = [] from rfl] at hat
      refine A_ ?_
      first | refine O_ ?_ | refine OD_ hm ?_
      refine G_ 2 hE ?_
      refine rc_ hE hP (spf) Tryd.func46 ?_ (hm := by exact ma2_) (hnr := by exact nrt2_) (had := by exact adt2_)
      refine rg_w (kfreeze 30 (by exact rfl) (by exact atO_fr P) (by exact atO_frz P)) ?_
      refine AO_ hE ?_
      refine G_ 200 hE ?_
      first | refine rz ?_ | refine ZD_ ?_
      refine A_ ?_
      have hat2 : P = Q := hat.symm
      rw [hat2]
      exact retr_ (h := by exact ma3_)
    · rw [show mkA mk true = [(24, mk)] from rfl] at hat
      refine A_ ?_
      first | refine O_ ?_ | refine OD_ hm ?_
      refine G_ 2 hE ?_
      refine rc_ hE hP (spf) Tryd.func46 ?_ (hm := by exact ma2_) (hnr := by exact nrt2_) (had := by exact adt2_)
      refine rg_w (kfreeze 30 (by exact rfl) (by exact atO_fr P) (by exact atO_frz P)) ?_
      refine AO_ hE ?_
      refine G_ 200 hE ?_
      first | refine rz ?_ | refine ZD_ ?_
      refine A_ ?_
      have hat2 : ((24, mk) :: P : List (Int × List UInt8)) = Q := hat.symm
      have hQl : 1 + P.length = Q.length := by rw [← hat2]; simp; try omega
      rw [atR_1, hat2, hQl]
      exact retr_ (h := by exact ma3_)
end Go.Proofs.YtocfhkmdkdjinaaDoor

/- A contract that takes rows whose bytes are read only serves for rows that own them too. Over any program. -/
namespace Go.Proofs.YtocfhkmdkdjinaaDoor
open Go Go.RowKit
set_option linter.unusedVariables false
set_option linter.unusedSimpArgs false
section
variable {w : World} {S : Nat → Prop} {ρ : Nat → Pl} {H : Nat → Sh}
theorem fz_owns {s n : Nat} {cs : List D} {v : Value} {F : List Nat} (hc : cs.all D.fr0 = true) (h : RV w S ρ H (.owns s n cs) v F) (hn : F.Nodup) :
    ∃ F', (∀ b ∈ F', b ∈ F) ∧ F'.Nodup ∧ RV w (fun b => S b ∨ (b ∈ F ∧ b ∉ F')) ρ H (.owns s n (cs.map frz)) v F' := by
  cases h with
  | owns _ _ _ A cap _ F0 Fs cur off hl hrow hf hF hr =>
    subst hF
    have hn' := List.nodup_append.1 hn
    refine ⟨F0, fun b hb => List.mem_append_left _ hb, hn'.1, .owns s n _ A cap F0 F0 (Fs.map fun _ => []) cur off (by simpa using hl) hrow (by simpa using hf) (by simp) (fun i c u f p1 p2 p3 => ?_)⟩
    rw [List.getElem?_map] at p1 p3
    obtain ⟨d, hd, rfl⟩ := Option.map_eq_some_iff.1 p1
    obtain ⟨Fi, hFi, rfl⟩ := Option.map_eq_some_iff.1 p3
    have hrv := hr i d u Fi hd p2 hFi
    have hfd : d.fr0 = true := all_get hc hd
    have hm : ∀ {d v F}, RV w S ρ H d v F → RV w (fun b => S b ∨ (b ∈ F0 ++ Fs.flatten ∧ b ∉ F0)) ρ H d v F := fun hr => hr.mono (fun _ h => .inl h) (fun _ _ => rfl) (fun _ => ⟨Nat.le_refl _, fun _ => ⟨rfl, rfl⟩⟩) (fun _ _ => rfl)
    cases d with
    | ownb l => exact rob_of_ownb hrv fun b hb => .inr ⟨List.mem_append_right _ (mem_flat_of hFi hb), fun h0 => hn'.2.2 b h0 b (mem_flat_of hFi hb) rfl⟩
    | _ => exact hm (pf1_nv (by exact hfd) hrv).2
theorem flat_pre {α : Type} : ∀ (Fs : List (List α)) (n : Nat), Fs.length = n + 1 → (∀ i, i < n → Fs[i]? = some []) → ∃ F, Fs[n]? = some F ∧ Fs.flatten = F
  | F :: Fs, 0, hl, _ => ⟨F, rfl, by
    have : Fs = [] := List.eq_nil_of_length_eq_zero (by simpa using hl)
    subst this
    simp⟩
  | F :: Fs, n + 1, hl, h => by
    have h0 := h 0 (by omega)
    simp only [List.getElem?_cons_zero, Option.some.injEq] at h0
    subst h0
    obtain ⟨F, h1, h2⟩ := flat_pre Fs n (by simpa using hl) (fun i hi => by have := h (i + 1) (by omega); simpa using this)
    exact ⟨F, by simpa using h1, by simpa using h2⟩
theorem fz_agg {pre : List D} {s n : Nat} {cs : List D} {v : Value} {F : List Nat} (hp : pre.all D.pf1 = true) (hc : cs.all D.fr0 = true) (h : RV w S ρ H (.agg (pre ++ [.owns s n cs])) v F) (hn : F.Nodup) :
    ∃ F', (∀ b ∈ F', b ∈ F) ∧ F'.Nodup ∧ RV w (fun b => S b ∨ (b ∈ F ∧ b ∉ F')) ρ H (.agg (pre ++ [.owns s n (cs.map frz)])) v F' := by
  cases h with
  | agg _ vs Fs _ hv hf hF hr =>
    simp only [List.length_append, List.length_singleton] at hv hf
    have hpre : ∀ (i : Nat) (c : D) (u : Value) (f : List Nat), i < pre.length → pre[i]? = some c → vs[i]? = some u → Fs[i]? = some f → f = [] ∧ RV w S ρ H c u [] := fun i c u f hi h1 h2 h3 => by
      have := hr i c u f (by rw [List.getElem?_append_left hi]; exact h1) h2 h3
      exact pf1_nv (all_get hp h1) this
    obtain ⟨Fl, hFl, hfl⟩ := flat_pre Fs pre.length hf (fun i hi => by
      have h3 : Fs[i]? = some Fs[i] := List.getElem?_eq_getElem (by omega)
      rw [h3, (hpre i _ _ _ hi (List.getElem?_eq_getElem hi) (List.getElem?_eq_getElem (by omega)) h3).1])
    rw [hF, hfl] at hn ⊢
    have hlast := hr pre.length (.owns s n cs) (vs[pre.length]'(by omega)) Fl (by simp) (List.getElem?_eq_getElem (by omega)) hFl
    obtain ⟨F', q1, q2, q3⟩ := fz_owns hc hlast hn
    refine ⟨F', q1, q2, .agg _ vs (List.replicate pre.length [] ++ [F']) F' (by simpa using hv) (by simp) (by simp) (fun i c u f h1 h2 h3 => ?_)⟩
    by_cases hi : i < pre.length
    · rw [List.getElem?_append_left hi] at h1
      rw [List.getElem?_append_left (by simpa using hi), List.getElem?_replicate, if_pos hi] at h3
      injection h3 with h3
      subst h3
      exact (hpre i c u _ hi h1 h2 (List.getElem?_eq_getElem (by omega))).2.mono (fun _ h => .inl h) (fun _ _ => rfl) (fun _ => ⟨Nat.le_refl _, fun _ => ⟨rfl, rfl⟩⟩) (fun _ _ => rfl)
    · have hi2 : i = pre.length := by
        have := (List.getElem?_eq_some_iff.1 h1).1
        simp at this
        omega
      subst hi2
      simp at h1 h3
      subst h1; subst h3
      rw [List.getElem?_eq_getElem (by omega)] at h2
      injection h2 with h2
      subst h2
      exact q3
end
/-- Taken as if its rows' bytes were read only. -/
theorem FC.frzA {P : Program} {G : Nat → Option D} {f : Nat} {pre : List D} {s n : Nat} {cs : List D} {ds : List D} {res : D} (hp : pre.all D.pf1 = true) (hc : cs.all D.fr0 = true) (h : FC P G f (.agg (pre ++ [.owns s n (cs.map frz)]) :: ds) res none) : FC P G f (.agg (pre ++ [.owns s n cs]) :: ds) res none := by
  intro w S vs Fs hS hG hl hf hrv hnd hdis
  match vs, Fs, hl, hf with
  | v0 :: vr, F0 :: Fr, hl, hf =>
  have h0 := hrv 0 _ v0 F0 rfl rfl rfl
  rw [List.flatten_cons] at hnd hdis
  have hn := List.nodup_append.1 hnd
  obtain ⟨F', q1, q2, q3⟩ := fz_agg hp hc h0 hn.1
  have hrows := h0.rows
  have hm : ∀ {d v F}, NV w S d v F → NV w (fun b => S b ∨ (b ∈ F0 ∧ b ∉ F')) d v F := fun {d v F} hr => (show RV w S ρ0 H0 d v F from hr).mono (fun _ h => .inl h) (fun _ _ => rfl) (fun _ => ⟨Nat.le_refl _, fun _ => ⟨rfl, rfl⟩⟩) (fun _ _ => rfl)
  refine (h w (fun b => S b ∨ (b ∈ F0 ∧ b ∉ F')) (v0 :: vr) (F' :: Fr) (fun b hb => ?_) (fun g c hg => hm (hG g c hg)) (by simpa using hl) (by simpa using hf) (fun i d v F p1 p2 p3 => ?_) ?_ ?_).mono ?_
  · rcases hb with hb | hb
    · exact hS b hb
    · exact hrows b hb.1
  · rcases i with _ | i
    · simp at p1 p2 p3
      subst p1; subst p2; subst p3
      exact q3
    · exact hm (hrv (i + 1) d v F (by simpa using p1) (by simpa using p2) (by simpa using p3))
  · rw [List.flatten_cons]
    exact List.nodup_append.2 ⟨q2, hn.2.1, fun a ha b hb => hn.2.2 a (q1 a ha) b hb⟩
  · intro b hb
    rw [List.flatten_cons] at hb
    rcases List.mem_append.1 hb with hb | hb
    · have h1 := hdis b (List.mem_append_left _ (q1 b hb))
      exact ⟨fun h => by rcases h with h | h; exact h1.1 h; exact h.2 hb, h1.2⟩
    · have h1 := hdis b (List.mem_append_right _ hb)
      exact ⟨fun h => by rcases h with h | h; exact h1.1 h; exact hn.2.2 b h.1 b hb rfl, h1.2⟩
  · rintro e w' ⟨v, F, Fo, S', r1, r2, r3, r4, r5, r6, r7, r8, r9, r10, r11, r12, r13, r14⟩
    have hsub : ∀ b, b ∈ F' ++ Fr.flatten → b ∈ F0 ++ Fr.flatten := fun b hb => by
      rcases List.mem_append.1 hb with hb | hb
      · exact List.mem_append_left _ (q1 b hb)
      · exact List.mem_append_right _ hb
    refine ⟨v, F, Fo, S', r1, r2, r3, r4, r5, r6, fun b hb hnb => r7 b hb (fun h => hnb ?_), fun b hb => r8 b (.inl hb), fun b hb => ?_, r10, r11, r12, r13, fun b hb => ?_⟩
    · rw [List.flatten_cons] at h ⊢; exact hsub b h
    · obtain ⟨t1, t2⟩ := r9 b hb
      refine ⟨t1, ?_⟩
      rw [List.flatten_cons] at t2 ⊢
      rcases t2 with (t2 | t2) | t2 | t2
      · exact .inl t2
      · exact .inr (.inr (List.mem_append_left _ t2.1))
      · exact .inr (.inl t2)
      · exact .inr (.inr (hsub b t2))
    · obtain ⟨t1, t2, t3⟩ := r14 b hb
      refine ⟨t1, t2, ?_⟩
      rw [List.flatten_cons] at t3 ⊢
      rcases t3 with t3 | t3
      · exact .inl t3
      · exact .inr (hsub b t3)
/-- A packet's arguments, its rows handed over. -/
theorem ma4_ {s : St} {d d2 : D} {own fro : List Nat} (h : Mat s d d2 own fro := by (repeat' (first | exact .tnil | apply mcf rfl | exact mat_eq rfl rfl | apply Mat.agg | exact mat_n2 | exact mat_r2 rfl rfl rfl rfl | exact mat_s2 rfl rfl rfl rfl | (apply mat_slf rfl rfl rfl rfl <;> first | rfl | exact atR_len _ | exact atO_len _ | exact atS_len _ | exact atR_fr _ | exact atO_fr _ | exact atS_fr _ | omega) | apply mat_i | apply mat_bl | apply mat_u8 | apply mat_st | apply mat_ab | apply mat_rbe | apply mat_nrb | (apply mat_r0 rfl rfl rfl <;> first | rfl | (simp <;> fail) | (simp; omega) | omega) | apply mat_rb rfl rfl rfl | apply mc)) <;> first | rfl | assumption | (simp <;> fail) | omega | (simp [List.take_of_length_le] <;> fail)) : Mat s d d2 own fro := h
end Go.Proofs.YtocfhkmdkdjinaaDoor

/- A call of a method that leaves its receiver as it was. Over any program. -/
namespace Go.Proofs.YtocfhkmdkdjinaaDoor
open Go Go.RowKit
set_option linter.unusedVariables false
set_option linter.unusedSimpArgs false
theorem lays_cg : ∀ (obs : List (Nat × Ob)) (s s' : St), (∀ y, s.ob y = s'.ob y) → s.sl = s'.sl → s.dk = s'.dk → (∀ y, (s.lays obs).ob y = (s'.lays obs).ob y) ∧ (s.lays obs).sl = (s'.lays obs).sl ∧ (s.lays obs).dk = (s'.lays obs).dk
  | [], s, s', h, h1, h2 => ⟨h, h1, h2⟩
  | (x, b) :: r, s, s', h, h1, h2 => by
    refine lays_cg r (s.lay x b) (s'.lay x b) (fun y => ?_) h1 h2
    rw [St.ob_lay, St.ob_lay, h y]
section
variable {C : Ctx} {s : St}
theorem Eff.same {o : Oper} {d : D} {x : Nat} {b : Ob} {obs : List (Nat × Ob)} {T R : List Nat} (h : Eff C o s d ((x, b) :: obs) T R) (hb : s.ob x = b) (hx : x ∈ R) : Eff C o s d obs T R := by
  intro σ hT hR K Q a w hrep hK
  refine h σ hT hR K Q a w hrep (fun a' w' hr => hK a' w' ?_)
  have hσ : σ.ob x = b := (hR x hx).trans hb
  obtain ⟨e1, e2, e3⟩ := lays_cg obs (σ.lay x b) σ (fun y => by
    rw [St.ob_lay]
    split
    · rename_i hy
      subst hy
      exact hσ.symm
    · rfl) rfl rfl
  have hr' : Rep C ((((σ.lay x b).lays obs)).puto o.dst d) a' w' := hr
  obtain ⟨h1, h2, ρ, S, Φ, h3, h4⟩ := hr'
  have o1 : ∀ y, (((σ.lay x b).lays obs).puto o.dst d).ob y = ((σ.lays obs).puto o.dst d).ob y := fun y => by cases o.dst <;> exact e1 y
  have o2 : (((σ.lay x b).lays obs).puto o.dst d).dk = ((σ.lays obs).puto o.dst d).dk := by cases o.dst <;> exact e3
  have o3 : (((σ.lay x b).lays obs).puto o.dst d).sh = ((σ.lays obs).puto o.dst d).sh := by
    funext y
    unfold St.sh
    rw [o1]
  have o4 : ∀ t, (((σ.lay x b).lays obs).puto o.dst d).slot t = ((σ.lays obs).puto o.dst d).slot t := fun t => by
    cases o.dst with
    | none => show look D.bot ((σ.lay x b).lays obs).sl t = look D.bot (σ.lays obs).sl t; rw [e2]
    | some u => show look D.bot ((u, d) :: ((σ.lay x b).lays obs).sl) t = look D.bot ((u, d) :: (σ.lays obs).sl) t; rw [e2]
  exact ⟨by rw [← o2]; exact h1, h2, ρ, S, Φ, h3.congr (fun y => (o1 y).symm) o2.symm, fun t => by rw [← o3, ← o4]; exact h4 t⟩
variable {Ti : Nat → TI} {G : Nat → Option D} {n : Nat} {ops : Array Oper} {acc acc' : Acc} {rest rest' : List Oper} {s1 s2 : St} {K : Acc → St → Prop} {W : St → St → Prop}
/-- That call in a region. -/
theorem rcs_ {P : Program} (hE : Env C Ti G n) (hP : C.P = P) {dst : Option Tmp} {f : Nat} {args : Array Operand} {ts : Array TypeId} {ty : TypeId} {pos : String} {after : Array Edge} {gd : Option (Nat × Bool)} {ins : List D} {res d1 : D} {x : Nat} {cs : List D} (fc : FC P G f ins res (some cs)) {fn : Func} (hfn : P.funcs[f]? = some fn)
    {own fro : List Nat} {obs : List (Nat × Ob)} {nm R : List Nat} (hk : RG C ops W ((nm, R) :: acc) rest s2 K) (hsame : s.ob x = ⟨(s.ob x).sh, some (.cells cs)⟩ := by exact rfl)
    (h2 : (fn.name == "runtime.NumGoroutine") = false := by exact rfl) (h3 : fn.body.isNone = false := by exact rfl) (hm : Mat s (.tup (args.toList.map (evg G s))) (.tup ins) own fro := by exact ma_) (hown : own = [x] := by exact rfl) (hdis : ∀ o ∈ own, o ∉ fro := by decide)
    (hnr : fro = [] ∨ (res.nr = true ∧ ∀ cs', some cs = some cs' → cs'.all D.nr0 = true) := by first | exact .inl rfl | exact .inr ⟨rfl, fun _ h => by cases h <;> rfl⟩) (had : res.ad = true := by exact adt2_) (hout : RcvOk s (some cs) own (args.toList.map (evg G s)) := by exact rk_) (hd : dstB n dst = true := by exact rfl) (hgd : gcO ops s gd = .yes := by exact rfl)
    (ho : (adO s.ob (dst.getD 0) res).2 = obs := by exact nc_) (hd1 : (adO s.ob (dst.getD 0) res).1 = d1 := by exact nc_) (hs : (s.lays obs).puto dst d1 = s2 := by exact nr_) (hnm : obs.map (·.1) = nm := by exact nc_) (hR : own ++ fro ++ (adO s.ob (dst.getD 0) res).2.map (·.1) = R := by exact nc_) :
    RG C ops W acc (⟨dst, .call { callee := .value (.func f), args := args, argTypes := ts }, ty, pos, after, gd⟩ :: rest) s K := by
  subst hs; subst hd1; subst hR; subst ho; subst hnm; subst hown
  intro M hM hW hend
  have he := eff_call (C := C) (s := s) (dst := dst) (ty := ty) (pos := pos) (after := after) (gd := gd) (ts := ts) (P := P) (G := G) (fo := .func f) (xs := args.toList) rfl (fnOk_of hfn h2 h3) fc hP hE.g (own := [x]) (fro := fro) (by rw [ev_g, hE.g]; exact hm) (by simp) hdis hnr had (by rw [ev_g, hE.g]; exact hout) (dstB_ok hE hd)
  have he2 : Eff C ⟨dst, .call { callee := .value (.func f), args := args, argTypes := ts }, ty, pos, after, gd⟩ s (adO s.ob (dst.getD 0) res).1 ((x, ⟨(s.ob x).sh, some (.cells cs)⟩) :: (adO s.ob (dst.getD 0) res).2) (opT (.func f) ++ args.toList.flatMap opT) ([x] ++ fro ++ (adO s.ob (dst.getD 0) res).2.map (·.1)) := he
  have he3 := he2.same hsame (by simp)
  refine hM.step _ _ _ _ _ _ _ (effG_yes (o := ⟨dst, .call { callee := .value (.func f), args := args, argTypes := ts }, ty, pos, after, gd⟩) hgd (he3.weak ?_ (fun _ h => h))) (hk M hM hW hend)
  intro z hz
  simp only [opsT, Op.operands, Call.operands, List.mem_flatMap] at hz ⊢
  rcases List.mem_append.1 hz with hz | hz
  · simp [opT] at hz
  · obtain ⟨y, hx, hz⟩ := List.mem_flatMap.1 hz
    exact ⟨y, by simp [hx], hz⟩
end
end Go.Proofs.YtocfhkmdkdjinaaDoor
