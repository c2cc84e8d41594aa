/- What the claim leans on, text Zrc: Nil, Ra4, Ra5, Ne, Ra6. No condition beyond what each lemma states. -/
import Derived.Test.YtocfhkmdkdjinaaDoorZia
import Derived.Test.YtocfhkmdkdjinaaDoorZra
import Derived.Test.YtocfhkmdkdjinaaDoorZd
import Derived.Test.YtocfhkmdkdjinaaDoorZt
import Derived.Test.YtocfhkmdkdjinaaDoorZrb
import Derived.Lib.SliceRun

/- A cell that is a nil slice owns no elements. Over any program. -/
namespace Go.Proofs.YtocfhkmdkdjinaaDoor
open Go Go.RowKit
set_option linter.unusedVariables false
set_option linter.unusedSimpArgs false
theorem knilcs {C : Ctx} {sl : List (Nat × D)} {hp : List (Nat × Ob)} {dk : List Nat} (o i e : Nat) {sh : Sh} {cs cs' : List D} (ho : (⟨sl, hp, dk⟩ : St).ob o = ⟨sh, some (.cells cs)⟩) (hi : cs[i]? = some .nilS) (hcs : cs.set i (.owns e 0 []) = cs') :
    Wk C ⟨sl, hp, dk⟩ ⟨sl, (o, ⟨sh, some (.cells cs')⟩) :: hp, dk⟩ := by
  subst hcs
  rintro a w ⟨h1, h2, ρ, S, Φ, h3, h4⟩
  have hct : ((⟨sl, hp, dk⟩ : St).ob o).ct = some (.cells cs) := by rw [ho]
  have hsh : (⟨sl, hp, dk⟩ : St).sh o = sh := by unfold St.sh; rw [ho]
  obtain ⟨q1, q2⟩ := h3.ob o _ hct
  have hil : i < cs.length := (List.getElem?_eq_some_iff.1 hi).1
  obtain ⟨k1, k2⟩ := h3.one (w' := w) o ⟨sh, some (.cells (cs.set i (.owns e 0 [])))⟩ (ρ o) (Φ o) rfl rfl rfl (Nat.le_refl _) (Szs.refl w) (.inr ⟨hsh.symm, rfl⟩) (fun _ _ _ => rfl) (fun c' hc' => by
    have e1 : Cont.cells (cs.set i (.owns e 0 [])) = c' := by simpa using hc'
    subst e1
    rw [upd_self]
    have e2 : upd (⟨sl, hp, dk⟩ : St).sh o (⟨sh, some (.cells (cs.set i (.owns e 0 [])))⟩ : Ob).sh = (⟨sl, hp, dk⟩ : St).sh := by
      show upd _ o sh = _
      rw [← hsh]; exact upd_self _ o
    rw [e2]
    rw [hsh] at q1
    refine ⟨by simpa [Cont.len] using q1, ?_⟩
    rcases q2 with ⟨z1, z2, z3⟩ | ⟨cur, E, fz, Fs, hh, hz, hs, hb, hF, hfl, hc⟩
    · exact .inl ⟨by simpa [Cont.len] using z1, z2, z3⟩
    · refine .inr ⟨cur, E, fz, Fs, hh, hz, hs, by simpa [Cont.len] using hb, hF, by simpa using hfl, fun j c u f p1 p2 p3 => ?_⟩
      rw [List.getElem?_set] at p1
      by_cases hij : i = j
      · subst hij
        rw [if_pos rfl, if_pos hil] at p1
        injection p1 with p1
        subst p1
        have hv := hc i _ u f hi p2 p3
        cases hv
        exact .owns e 0 [] _ _ [] [] [] #[] 0 (by simp) ⟨Nat.le_refl _, by simp [maxLen], .inl ⟨rfl, rfl, rfl⟩⟩ rfl rfl (fun i c u f h => by simp at h)
      · rw [if_neg hij] at p1
        exact hc j c u f p1 p2 p3) (fun _ => ⟨(h3.own o _ hct).1, fun b hb => ⟨((h3.own o _ hct).2 b hb).1, ((h3.own o _ hct).2 b hb).2.1, ((h3.own o _ hct).2 b hb).2.2.1, ((h3.own o _ hct).2 b hb).2.2.2, fun o' c' hne hc' => h3.dis o o' _ c' hct hc' (Ne.symm hne) b hb⟩⟩)
  rw [upd_self, upd_self] at k1
  rw [upd_self] at k2
  exact ⟨h1, h2, ρ, S, Φ, k1, fun t => k2 _ _ (h4 t)⟩
end Go.Proofs.YtocfhkmdkdjinaaDoor

/- radius: Read. Printed by wp.py. -/
namespace Go.Proofs.YtocfhkmdkdjinaaDoor
open Go Go.RowKit
set_option linter.unusedVariables false
set_option linter.unusedSimpArgs false
set_option maxRecDepth 100000
set_option maxHeartbeats 4000000
attribute [local irreducible] inR VC RG VCn sq inS lq nq jq Wk
/-- What is read of bytes: code, number, authenticator, attributes, error. -/
def rdP (l : List UInt8) : Int × Int × List UInt8 × List (Int × List UInt8) × Int :=
  match rdS l with
  | some L => (((gb l 0).toNat : Int), ((gb l 1).toNat : Int), q16 (l.drop 4), L, 0)
  | none => (0, 0, z16, [], 2)
theorem rdP_none {l : List UInt8} (h : rdS l = none) : rdP l = (0, 0, z16, [], 2) := by unfold rdP; rw [h]
theorem rdP_some {l : List UInt8} {L : List (Int × List UInt8)} (h : rdS l = some L) : rdP l = (((gb l 0).toNat : Int), ((gb l 1).toNat : Int), q16 (l.drop 4), L, 0) := by unfold rdP; rw [h]
theorem rdS_no {l : List UInt8} (h : rdO l = false) : rdS l = none := by unfold rdS; rw [h]; rfl
theorem rdS_yes {l : List UInt8} (h : rdO l = true) : rdS l = prs (l.drop 20) := by unfold rdS; rw [if_pos h]
theorem rdO_iff (l : List UInt8) : rdO l = true ↔ 20 ≤ l.length ∧ l.length ≤ 4096 ∧ isCd (gb l 0).toNat = true ∧ (gb l 2).toNat * 256 + (gb l 3).toNat = l.length := by
  unfold rdO
  simp only [Bool.and_eq_true, decide_eq_true_eq, and_assoc]
theorem z16_q {m : List UInt8} (h : z16 = q16 m) (i : Nat) (hi : i < 16) : gb m i = 0 := by
  rw [← q16_gb m i hi, ← h]
  unfold z16 gb
  rw [List.getD_eq_getElem?_getD, List.getElem?_replicate]
  split <;> rfl
theorem d420 (l : List UInt8) (h : 20 ≤ l.length) : List.drop 4 (List.take 20 l) = q16 (l.drop 4) := by
  rw [List.drop_take]
  refine gb_ext (by rw [List.length_take, List.length_drop, q16_len]; omega) fun i hi => ?_
  rw [List.length_take, List.length_drop] at hi
  rw [q16_gb _ i (by omega)]
  unfold gb
  rw [List.getD_eq_getElem?_getD, List.getElem?_take_of_lt (by omega), ← List.getD_eq_getElem?_getD]
theorem wi_no {n lo hi : Int} (h : ¬ (lo ≤ n ∧ n ≤ hi)) : (decide (lo ≤ n) && decide (n ≤ hi)) = false := by
  rw [← Bool.decide_and]
  exact decide_eq_false h
theorem nmL_atO : ∀ L : List (Int × List UInt8), nmL (atO L) = []
  | [] => rfl
  | a :: L => by
    show nmL ([D.int .i64 a.1, D.ownb a.2] ++ atO L) = []
    rw [nmL_append, nmL_atO L]
    rfl
theorem q16_inj {a b : List UInt8} (h : q16 a = q16 b) (i : Nat) (hi : i < 16) : gb a i = gb b i := by rw [← q16_gb a i hi, h, q16_gb b i hi]
attribute [local simp] nmL_atO
attribute [local irreducible] bodyA wrS wrO idxF idxM z16 seV slV rpV rdO rdS prs rdP prC

namespace Uread_fc
theorem U : type_of% (@drop_rep UInt8) ∧ type_of% (@drop_rep D) ∧ type_of% (@List.take_zero UInt8) ∧ type_of% (@List.take_zero D) ∧ type_of% @q16_take ∧ type_of% @q16_len ∧ type_of% @q16_fold ∧ type_of% @q16_map ∧ type_of% @decL ∧ type_of% @decI ∧ type_of% @atR_len ∧ type_of% @atO_len ∧ type_of% @atR_sc ∧ type_of% @atR_tk ∧ type_of% @atR_app1 := ⟨(@drop_rep UInt8), (@drop_rep D), (@List.take_zero UInt8), (@List.take_zero D), @q16_take, @q16_len, @q16_fold, @q16_map, @decL, @decI, @atR_len, @atO_len, @atR_sc, @atR_tk, @atR_app1⟩
end Uread_fc
open Uread_fc
theorem read_fc (l : List UInt8) (c i : Int) (au : List UInt8) (L : List (Int × List UInt8)) (e : Int) (h : rdP l = (c, i, q16 au, L, e)) : FC Tryd.prog GE 36 [.rob l] (.tup [.agg [.int .i64 c, .int .i64 i, .u8 (gb au 0), .u8 (gb au 1), .u8 (gb au 2), .u8 (gb au 3), .u8 (gb au 4), .u8 (gb au 5), .u8 (gb au 6), .u8 (gb au 7), .u8 (gb au 8), .u8 (gb au 9), .u8 (gb au 10), .u8 (gb au 11), .u8 (gb au 12), .u8 (gb au 13), .u8 (gb au 14), .u8 (gb au 15), .owns 2 L.length (atO L)], .int .i64 e]) none := by
  refine fict_ 94 ti_eq gpE Tryd.func36 (fun C hE hm hP hrc hrn => ?_) (had := (by exact adl2_))
  refine vs ?_
  refine R_ hE ?_
  refine sq_n ?_
  refine vs ?_
  refine vs ?_
  by_cases hl : 20 ≤ (l.length : Int) ∧ (l.length : Int) ≤ 4096
  · first | refine O_ ?_ | refine OD_ hm ?_
    refine G_ 2 hE ?_
    refine rc_ hE hP (within_fc l.length 20 4096) Tryd.func83 ?_
    rw [decide_eq_true hl.1, decide_eq_true hl.2]
    refine G_ 2 hE ?_
    refine GT_ hE (rfl) ?_
    refine GT_ hE (rfl) ?_
    refine GT_ hE (rfl) ?_
    refine GT_ hE (rfl) ?_
    refine rct_ hE hP (isCode_fc (gb l 0).toNat) Tryd.func82 (rfl) ?_
    cases hcd : isCd (gb l 0).toNat
    · have hn : rdS l = none := rdS_no (by cases ho : rdO l with | false => rfl | true => exact absurd ((rdO_iff l).1 ho) (by simp [hcd]))
      rw [rdP_none hn] at h
      simp only [Prod.mk.injEq] at h
      obtain ⟨rfl, rfl, hz, rfl, rfl⟩ := h
      simp only [z16_q hz, Nat.reduceLT]
      refine GT_ hE (rfl) ?_
      refine G_ 2 hE ?_
      refine GF_ hE (rfl) ?_
      refine GF_ hE (rfl) ?_
      refine GF_ hE (rfl) ?_
      refine GF_ hE (rfl) ?_
      refine GF_ hE (rfl) ?_
      refine GF_ hE (rfl) ?_
      refine GF_ hE (rfl) ?_
      refine GF_ hE (rfl) ?_
      refine GF_ hE (rfl) ?_
      refine GF_ hE (rfl) ?_
      refine GF_ hE (rfl) ?_
      refine GF_ hE (rfl) ?_
      refine GI_ (.bool true) hE (rfl) ?_
      refine G_ 200 hE ?_
      first | refine rz ?_ | refine ZD_ ?_
      refine sq_n ?_
      refine vT hE rfl (rfl) ?_
      refine vs ?_
      first | refine O_ ?_ | refine OD_ hm ?_
      refine G_ 200 hE ?_
      first | refine rz ?_ | refine ZD_ ?_
      refine sq_n ?_
      refine VC.weak ?_ (knilcs 2 18 2 (by exact rfl) (by exact rfl) (by exact rfl))
      refine wv_ (sos_ 2 18 970 0) ?_
      refine A_ ?_
      exact retct_ (h := by exact ma3_)
    · refine GT_ hE (rfl) ?_
      refine G_ 2 hE ?_
      have hb_l2 := UInt8.toNat_lt (gb l 2); have hb_l3 := UInt8.toNat_lt (gb l 3)
      refine GT_ hE (rfl) ?_
      refine GT_ hE (rfl) ?_
      refine GT_ hE (rfl) ?_
      refine GT_ hE (rfl) ?_
      refine GT_ hE (rfl) ?_
      refine GT_ hE (rfl) ?_
      refine GT_ hE (rfl) ?_
      refine GT_ hE (rfl) ?_
      refine GT_ hE (rfl) ?_
      refine GT_ hE (rfl) ?_
      rw [or16 _ _ (by omega) (by omega)]
      refine GT_ hE (rfl) ?_
      refine GT_ hE (rfl) ?_
      refine GT_ hE (rfl) ?_
      by_cases hs : (gb l 2).toNat * 256 + (gb l 3).toNat = l.length
      · rw [decide_eq_true (show (((gb l 2).toNat * 256 + (gb l 3).toNat : Nat) : Int) = (l.length : Int) from by omega)]
        refine G_ 200 hE ?_
        first | refine rz ?_ | refine ZD_ ?_
        refine A_ ?_
        first | refine O_ ?_ | refine OD_ hm ?_
        refine G_ 10 hE ?_
        rw [d420 l (by omega)]
        refine G_ 200 hE ?_
        first | refine rz ?_ | refine ZD_ ?_
        refine sq_n ?_
        refine A_ ?_
        have ho : rdO l = true := (rdO_iff l).2 ⟨by omega, by omega, hcd, hs⟩
        have hrs := rdS_yes ho
        refine VC.weak ?_ (knilcs 4 18 2 (by exact rfl) (by exact rfl) (by exact rfl))
        refine wv_ (sos_ 4 18 960 0) ?_
        refine vl (fun a : List (Int × List UInt8) × List UInt8 => ⟨[(0, .rob a.2), (2, .ptr 2 1 0), (3, .int .i64 0), (4, .ptr 4 1 0)], [(4, ⟨⟨1, 1, 19⟩, some (.cells [.int .i64 (gb l 0).toNat, .int .i64 (gb l 1).toNat, .u8 (gb (l.drop 4) 0), .u8 (gb (l.drop 4) 1), .u8 (gb (l.drop 4) 2), .u8 (gb (l.drop 4) 3), .u8 (gb (l.drop 4) 4), .u8 (gb (l.drop 4) 5), .u8 (gb (l.drop 4) 6), .u8 (gb (l.drop 4) 7), .u8 (gb (l.drop 4) 8), .u8 (gb (l.drop 4) 9), .u8 (gb (l.drop 4) 10), .u8 (gb (l.drop 4) 11), .u8 (gb (l.drop 4) 12), .u8 (gb (l.drop 4) 13), .u8 (gb (l.drop 4) 14), .u8 (gb (l.drop 4) 15), .sl 960 (1 + a.1.length) 0 a.1.length])⟩), (960, ⟨⟨1 + a.1.length, 2, a.1.length * 2⟩, some (.cells (atO a.1))⟩), (2, ⟨⟨1, 1, 19⟩, some (.cells [.int .i64 0, .int .i64 0, .u8 0, .u8 0, .u8 0, .u8 0, .u8 0, .u8 0, .u8 0, .u8 0, .u8 0, .u8 0, .u8 0, .u8 0, .u8 0, .u8 0, .u8 0, .u8 0, .nilS])⟩)], []⟩) (fun a => a.1.length * 2 + a.2.length ≤ 4096 ∧ prs (l.drop 20) = (prs a.2).map (a.1 ++ ·)) (fun a => a.2.length) ([], l.drop 20) ?_ ⟨by simp; omega, by simp⟩ ?_
        · exact wk_ hrc
        rintro ⟨M, r⟩ ⟨hsz, hp⟩
        simp only at hsz hp ⊢
        refine A_ ?_
        by_cases hr0 : r.length = 0
        · have hn : rdS l = some M := by rw [hrs, hp, prs_nil hr0]; simp
          rw [rdP_some hn] at h
          simp only [Prod.mk.injEq] at h
          obtain ⟨rfl, rfl, hq, rfl, rfl⟩ := h
          simp only [q16_inj hq, Nat.reduceLT]
          refine C_ hE (fun hc => ?_) (fun hc => ?_) <;> (try (exfalso; omega))
          refine A_ ?_
          exact retct_ (h := by exact ma3_)
        · refine C_ hE (fun hc => ?_) (fun hc => ?_) <;> (try (exfalso; omega))
          refine A_ ?_
          by_cases hr2 : r.length < 2
          · have hn : rdS l = none := by rw [hrs, hp, prs_none hr0 (by unfold prC; simp; omega)]; rfl
            rw [rdP_none hn] at h
            simp only [Prod.mk.injEq] at h
            obtain ⟨rfl, rfl, hz, rfl, rfl⟩ := h
            simp only [z16_q hz, Nat.reduceLT]
            first | refine O_ ?_ | refine OD_ hm ?_
            refine G_ 3 hE ?_
            rw [decide_eq_true (show ((r.length : Int) < 2) from by omega)]
            refine G_ 1 hE ?_
            refine GF_ hE (rfl) ?_
            refine GF_ hE (rfl) ?_
            refine GF_ hE (rfl) ?_
            refine GI_ (.bool true) hE (rfl) ?_
            refine G_ 2 hE ?_
            refine GF_ hE (rfl) ?_
            refine GF_ hE (rfl) ?_
            refine GF_ hE (rfl) ?_
            refine GF_ hE (rfl) ?_
            refine GF_ hE (rfl) ?_
            refine GF_ hE (rfl) ?_
            refine GF_ hE (rfl) ?_
            refine GI_ (.bool true) hE (rfl) ?_
            refine G_ 200 hE ?_
            first | refine rz ?_ | refine ZD_ ?_
            refine sq_n ?_
            refine vT hE rfl (rfl) ?_
            refine vs ?_
            first | refine O_ ?_ | refine OD_ hm ?_
            refine G_ 200 hE ?_
            first | refine rz ?_ | refine ZD_ ?_
            refine sq_n ?_
            refine VC.weak ?_ (knilcs 2 18 2 (by exact rfl) (by exact rfl) (by exact rfl))
            refine wv_ (sos_ 2 18 970 0) ?_
            refine A_ ?_
            exact retct_ (h := by exact ma3_)
          · by_cases hr1 : gb r 0 = 0
            · have hn : rdS l = none := by rw [hrs, hp, prs_none hr0 (by unfold prC; simp [hr1])]; rfl
              rw [rdP_none hn] at h
              simp only [Prod.mk.injEq] at h
              obtain ⟨rfl, rfl, hz, rfl, rfl⟩ := h
              simp only [z16_q hz, Nat.reduceLT]
              first | refine O_ ?_ | refine OD_ hm ?_
              refine G_ 3 hE ?_
              rw [decide_eq_false (show ¬ ((r.length : Int) < 2) from by omega)]
              refine G_ 1 hE ?_
              refine GT_ hE (rfl) ?_
              refine GT_ hE (rfl) ?_
              refine GT_ hE (rfl) ?_
              refine GT_ hE (rfl) ?_
              rw [decide_eq_true hr1]
              refine G_ 2 hE ?_
              refine GF_ hE (rfl) ?_
              refine GF_ hE (rfl) ?_
              refine GF_ hE (rfl) ?_
              refine GF_ hE (rfl) ?_
              refine GF_ hE (rfl) ?_
              refine GF_ hE (rfl) ?_
              refine GF_ hE (rfl) ?_
              refine GI_ (.bool true) hE (rfl) ?_
              refine G_ 200 hE ?_
              first | refine rz ?_ | refine ZD_ ?_
              refine sq_n ?_
              refine vT hE rfl (rfl) ?_
              refine vs ?_
              first | refine O_ ?_ | refine OD_ hm ?_
              refine G_ 200 hE ?_
              first | refine rz ?_ | refine ZD_ ?_
              refine sq_n ?_
              refine VC.weak ?_ (knilcs 2 18 2 (by exact rfl) (by exact rfl) (by exact rfl))
              refine wv_ (sos_ 2 18 970 0) ?_
              refine A_ ?_
              exact retct_ (h := by exact ma3_)
            · by_cases hr3 : 2 ≤ ((gb r 1).toNat : Int) ∧ ((gb r 1).toNat : Int) ≤ (r.length : Int)
              · have hpc : prC r = true := by unfold prC; simp [hr1]; omega
                have hpr := prs_some hpc
                first | refine O_ ?_ | refine OD_ hm ?_
                refine G_ 3 hE ?_
                rw [decide_eq_false (show ¬ ((r.length : Int) < 2) from by omega)]
                refine G_ 1 hE ?_
                refine GT_ hE (rfl) ?_
                refine GT_ hE (rfl) ?_
                refine GT_ hE (rfl) ?_
                refine GT_ hE (rfl) ?_
                rw [decide_eq_false hr1]
                refine G_ 2 hE ?_
                refine GT_ hE (rfl) ?_
                refine GT_ hE (rfl) ?_
                refine GT_ hE (rfl) ?_
                refine GT_ hE (rfl) ?_
                refine GT_ hE (rfl) ?_
                refine GT_ hE (rfl) ?_
                refine rct_ hE hP (within_fc (gb r 1).toNat 2 r.length) Tryd.func83 (rfl) ?_
                rw [decide_eq_true hr3.1, decide_eq_true hr3.2]
                refine G_ 200 hE ?_
                first | refine rz ?_ | refine ZD_ ?_
                refine A_ ?_
                obtain ⟨n, hn⟩ : ∃ n, n = (gb r 1).toNat := ⟨_, rfl⟩
                rw [← hn]
                rw [← hn] at hr3 hpr
                first | refine O_ ?_ | refine OD_ hm ?_
                refine G_ 9 hE ?_
                obtain ⟨V, hV⟩ : ∃ V, V = List.drop 2 (List.take n r) := ⟨_, rfl⟩
                have hVl : V.length ≤ 4096 := by rw [hV, List.length_drop, List.length_take]; omega
                rw [← hV]
                have hpa : prA r = (((gb r 0).toNat : Int), V) := by rw [hV, hn]; rfl
                rw [hpa] at hpr
                refine rc_ hE hP (clone_fc _ V (by omega)) Tryd.func85 ?_
                refine G_ 2 hE ?_
                refine AO_ hE ?_
                refine G_ 200 hE ?_
                first | refine rz ?_ | refine ZD_ ?_
                refine sq_n ?_
                refine VC.weak ?_ (kclose 960 (M.length * 2 + 1) 85 (by exact rfl) (by exact at_last2 _ _ (atO_len M) _ _) (by exact rfl) (by exact rfl) (by exact rfl) (by exact rfl) (by exact at_set2 _ _ (atO_len M) _ _ _))
                refine A_ ?_
                obtain ⟨M', hM'⟩ : ∃ M', M' = M ++ [(((gb r 0).toNat : Int), V)] := ⟨_, rfl⟩
                have hMl : M'.length = M.length + 1 := by rw [hM']; simp
                rw [atO_snoc, ← hM', show M.length * 2 + 2 = M'.length * 2 by omega, show 1 + M.length + 1 = 1 + M'.length by omega, ← hMl]
                refine lq_n (M', r.drop n) ?_ ⟨by simp only [List.length_drop]; omega, ?_⟩ (by simp only [List.length_drop]; omega)
                · exact wk_ hrc
                · simp only
                  rw [hp, hpr, hM', Option.map_map]
                  congr 1
                  funext x
                  simp
              · have hn : rdS l = none := by rw [hrs, hp, prs_none hr0 (by unfold prC; simp; omega)]; rfl
                rw [rdP_none hn] at h
                simp only [Prod.mk.injEq] at h
                obtain ⟨rfl, rfl, hz, rfl, rfl⟩ := h
                simp only [z16_q hz, Nat.reduceLT]
                first | refine O_ ?_ | refine OD_ hm ?_
                refine G_ 3 hE ?_
                rw [decide_eq_false (show ¬ ((r.length : Int) < 2) from by omega)]
                refine G_ 1 hE ?_
                refine GT_ hE (rfl) ?_
                refine GT_ hE (rfl) ?_
                refine GT_ hE (rfl) ?_
                refine GT_ hE (rfl) ?_
                rw [decide_eq_false hr1]
                refine G_ 2 hE ?_
                refine GT_ hE (rfl) ?_
                refine GT_ hE (rfl) ?_
                refine GT_ hE (rfl) ?_
                refine GT_ hE (rfl) ?_
                refine GT_ hE (rfl) ?_
                refine GT_ hE (rfl) ?_
                refine rct_ hE hP (within_fc (gb r 1).toNat 2 r.length) Tryd.func83 (rfl) ?_
                rw [wi_no hr3]
                refine G_ 200 hE ?_
                first | refine rz ?_ | refine ZD_ ?_
                refine sq_n ?_
                refine vT hE rfl (rfl) ?_
                refine vs ?_
                first | refine O_ ?_ | refine OD_ hm ?_
                refine G_ 200 hE ?_
                first | refine rz ?_ | refine ZD_ ?_
                refine sq_n ?_
                refine VC.weak ?_ (knilcs 2 18 2 (by exact rfl) (by exact rfl) (by exact rfl))
                refine wv_ (sos_ 2 18 970 0) ?_
                refine A_ ?_
                exact retct_ (h := by exact ma3_)
      · have hn : rdS l = none := rdS_no (by cases ho : rdO l with | false => rfl | true => exact absurd ((rdO_iff l).1 ho) (by omega))
        rw [rdP_none hn] at h
        simp only [Prod.mk.injEq] at h
        obtain ⟨rfl, rfl, hz, rfl, rfl⟩ := h
        simp only [z16_q hz, Nat.reduceLT]
        rw [decide_eq_false (show ¬ (((gb l 2).toNat * 256 + (gb l 3).toNat : Nat) : Int) = (l.length : Int) from by omega)]
        refine G_ 200 hE ?_
        first | refine rz ?_ | refine ZD_ ?_
        refine sq_n ?_
        refine vT hE rfl (rfl) ?_
        refine vs ?_
        first | refine O_ ?_ | refine OD_ hm ?_
        refine G_ 200 hE ?_
        first | refine rz ?_ | refine ZD_ ?_
        refine sq_n ?_
        refine VC.weak ?_ (knilcs 2 18 2 (by exact rfl) (by exact rfl) (by exact rfl))
        refine wv_ (sos_ 2 18 970 0) ?_
        refine A_ ?_
        exact retct_ (h := by exact ma3_)
  · have hn : rdS l = none := rdS_no (by cases ho : rdO l with | false => rfl | true => exact absurd ((rdO_iff l).1 ho) (by omega))
    rw [rdP_none hn] at h
    simp only [Prod.mk.injEq] at h
    obtain ⟨rfl, rfl, hz, rfl, rfl⟩ := h
    simp only [z16_q hz, Nat.reduceLT]
    first | refine O_ ?_ | refine OD_ hm ?_
    refine G_ 2 hE ?_
    refine rc_ hE hP (within_fc l.length 20 4096) Tryd.func83 ?_
    rw [wi_no hl]
    refine G_ 2 hE ?_
    refine GF_ hE (rfl) ?_
    refine GF_ hE (rfl) ?_
    refine GF_ hE (rfl) ?_
    refine GF_ hE (rfl) ?_
    refine GF_ hE (rfl) ?_
    refine GI_ (.bool true) hE (rfl) ?_
    refine G_ 2 hE ?_
    refine GF_ hE (rfl) ?_
    refine GF_ hE (rfl) ?_
    refine GF_ hE (rfl) ?_
    refine GF_ hE (rfl) ?_
    refine GF_ hE (rfl) ?_
    refine GF_ hE (rfl) ?_
    refine GF_ hE (rfl) ?_
    refine GF_ hE (rfl) ?_
    refine GF_ hE (rfl) ?_
    refine GF_ hE (rfl) ?_
    refine GF_ hE (rfl) ?_
    refine GF_ hE (rfl) ?_
    refine GI_ (.bool true) hE (rfl) ?_
    refine G_ 200 hE ?_
    first | refine rz ?_ | refine ZD_ ?_
    refine sq_n ?_
    refine vT hE rfl (rfl) ?_
    refine vs ?_
    first | refine O_ ?_ | refine OD_ hm ?_
    refine G_ 200 hE ?_
    first | refine rz ?_ | refine ZD_ ?_
    refine sq_n ?_
    refine VC.weak ?_ (knilcs 2 18 2 (by exact rfl) (by exact rfl) (by exact rfl))
    refine wv_ (sos_ 2 18 970 0) ?_
    refine A_ ?_
    exact retct_ (h := by exact ma3_)
end Go.Proofs.YtocfhkmdkdjinaaDoor

/- radius: of. Printed by wp.py. -/
namespace Go.Proofs.YtocfhkmdkdjinaaDoor
open Go Go.RowKit
set_option linter.unusedVariables false
set_option linter.unusedSimpArgs false
set_option maxRecDepth 100000
set_option maxHeartbeats 4000000
attribute [local irreducible] inR VC RG VCn sq inS lq nq jq Wk
attribute [local simp] nmL_atO
/-- What is read, if it is an Ask as it should be, or isn't. -/
def ofP (l : List UInt8) (ask : Bool) : Int × Int × List UInt8 × List (Int × List UInt8) × Int :=
  if (rdP l).2.2.2.2 = 0 ∧ decide ((rdP l).1 = 1) ≠ ask then (0, 0, z16, [], 10) else rdP l
theorem rdP_ex (l : List UInt8) : ∃ c i au L e, rdP l = (c, i, q16 au, L, e) := by
  rcases h : rdS l with _ | L
  · exact ⟨_, _, z16, _, _, by rw [rdP_none h]; rfl⟩
  · exact ⟨_, _, _, _, _, rdP_some h⟩
attribute [local irreducible] bodyA wrS wrO idxF idxM z16 seV slV rpV rdO rdS prs rdP prC

namespace Uof_fc
theorem U : type_of% (@drop_rep UInt8) ∧ type_of% (@drop_rep D) ∧ type_of% (@List.take_zero UInt8) ∧ type_of% (@List.take_zero D) ∧ type_of% @q16_take ∧ type_of% @q16_len ∧ type_of% @q16_fold ∧ type_of% @q16_map ∧ type_of% @decL ∧ type_of% @decI ∧ type_of% @atR_len ∧ type_of% @atO_len ∧ type_of% @atR_sc ∧ type_of% @atR_tk ∧ type_of% @atR_app1 := ⟨(@drop_rep UInt8), (@drop_rep D), (@List.take_zero UInt8), (@List.take_zero D), @q16_take, @q16_len, @q16_fold, @q16_map, @decL, @decI, @atR_len, @atO_len, @atR_sc, @atR_tk, @atR_app1⟩
end Uof_fc
open Uof_fc
theorem of_fc (l : List UInt8) (ask : Bool) (c i : Int) (au : List UInt8) (L : List (Int × List UInt8)) (e : Int) (h : ofP l ask = (c, i, q16 au, L, e)) : FC Tryd.prog GE 75 [.rob l, .bool ask] (.tup [.agg [.int .i64 c, .int .i64 i, .u8 (gb au 0), .u8 (gb au 1), .u8 (gb au 2), .u8 (gb au 3), .u8 (gb au 4), .u8 (gb au 5), .u8 (gb au 6), .u8 (gb au 7), .u8 (gb au 8), .u8 (gb au 9), .u8 (gb au 10), .u8 (gb au 11), .u8 (gb au 12), .u8 (gb au 13), .u8 (gb au 14), .u8 (gb au 15), .owns 2 L.length (atO L)], .int .i64 e]) none := by
  refine fict_ 25 ti_eq gpE Tryd.func75 (fun C hE hm hP hrc hrn => ?_) (had := (by exact adl2_))
  obtain ⟨c', i', au', L', e', hr⟩ := rdP_ex l
  have rd := read_fc l c' i' au' L' e' hr
  refine vs ?_
  refine R_ hE ?_
  refine sq_n ?_
  refine vs ?_
  first | refine O_ ?_ | refine OD_ hm ?_
  refine G_ 1 hE ?_
  refine rc_ hE hP (rd) Tryd.func36 ?_ (hm := by exact ma2_) (hnr := by exact nrt2_) (had := by exact adt2_)
  refine G_ 200 hE ?_
  first | refine rz ?_ | refine ZD_ ?_
  refine sq_n ?_
  refine vs ?_
  refine vs ?_
  by_cases he : e' = 0
  · subst he
    first | refine O_ ?_ | refine OD_ hm ?_
    refine G_ 3 hE ?_
    refine GT_ hE (rfl) ?_
    refine GT_ hE (rfl) ?_
    refine GT_ hE (rfl) ?_
    refine GT_ hE (rfl) ?_
    by_cases hc1 : c' = 1
    · rw [decide_eq_true hc1]
      cases ask
      · refine GT_ hE (rfl) ?_
        have hof : ofP l false = (0, 0, z16, [], 10) := by unfold ofP; rw [if_pos (by rw [hr]; simp [hc1])]
        rw [hof] at h
        simp only [Prod.mk.injEq] at h
        obtain ⟨rfl, rfl, hz, rfl, rfl⟩ := h
        simp only [z16_q hz, Nat.reduceLT]
        refine G_ 200 hE ?_
        first | refine rz ?_ | refine ZD_ ?_
        refine sq_n ?_
        refine vT hE rfl (rfl) ?_
        refine vs ?_
        first | refine O_ ?_ | refine OD_ hm ?_
        refine G_ 200 hE ?_
        first | refine rz ?_ | refine ZD_ ?_
        refine sq_n ?_
        refine VC.weak ?_ (knilcs 4 18 2 (by exact rfl) (by exact rfl) (by exact rfl))
        refine wv_ (sos_ 4 18 970 0) ?_
        refine A_ ?_
        exact retct_ (h := by exact ma3_)
      · refine GT_ hE (rfl) ?_
        have hof : ofP l true = rdP l := by unfold ofP; rw [if_neg (by rw [hr]; simp [hc1])]
        rw [hof, hr] at h
        simp only [Prod.mk.injEq] at h
        obtain ⟨rfl, rfl, hq, rfl, rfl⟩ := h
        simp only [← q16_inj hq, Nat.reduceLT]
        refine G_ 200 hE ?_
        first | refine rz ?_ | refine ZD_ ?_
        refine A_ ?_
        exact retct_ (h := by exact ma3_)
    · rw [decide_eq_false hc1]
      cases ask
      · refine GT_ hE (rfl) ?_
        have hof : ofP l false = rdP l := by unfold ofP; rw [if_neg (by rw [hr]; simp [hc1])]
        rw [hof, hr] at h
        simp only [Prod.mk.injEq] at h
        obtain ⟨rfl, rfl, hq, rfl, rfl⟩ := h
        simp only [← q16_inj hq, Nat.reduceLT]
        refine G_ 200 hE ?_
        first | refine rz ?_ | refine ZD_ ?_
        refine A_ ?_
        exact retct_ (h := by exact ma3_)
      · refine GT_ hE (rfl) ?_
        have hof : ofP l true = (0, 0, z16, [], 10) := by unfold ofP; rw [if_pos (by rw [hr]; simp [hc1])]
        rw [hof] at h
        simp only [Prod.mk.injEq] at h
        obtain ⟨rfl, rfl, hz, rfl, rfl⟩ := h
        simp only [z16_q hz, Nat.reduceLT]
        refine G_ 200 hE ?_
        first | refine rz ?_ | refine ZD_ ?_
        refine sq_n ?_
        refine vT hE rfl (rfl) ?_
        refine vs ?_
        first | refine O_ ?_ | refine OD_ hm ?_
        refine G_ 200 hE ?_
        first | refine rz ?_ | refine ZD_ ?_
        refine sq_n ?_
        refine VC.weak ?_ (knilcs 4 18 2 (by exact rfl) (by exact rfl) (by exact rfl))
        refine wv_ (sos_ 4 18 970 0) ?_
        refine A_ ?_
        exact retct_ (h := by exact ma3_)
  · have hof : ofP l ask = rdP l := by unfold ofP; rw [if_neg (by rw [hr]; simp [he])]
    rw [hof, hr] at h
    simp only [Prod.mk.injEq] at h
    obtain ⟨rfl, rfl, hq, rfl, rfl⟩ := h
    simp only [← q16_inj hq, Nat.reduceLT]
    first | refine O_ ?_ | refine OD_ hm ?_
    refine G_ 2 hE ?_
    rw [decide_eq_false he]
    refine G_ 1 hE ?_
    refine GF_ hE (rfl) ?_
    refine GF_ hE (rfl) ?_
    refine GF_ hE (rfl) ?_
    refine GF_ hE (rfl) ?_
    refine GI_ (.bool true) hE (rfl) ?_
    refine G_ 200 hE ?_
    first | refine rz ?_ | refine ZD_ ?_
    refine A_ ?_
    exact retct_ (h := by exact ma3_)
end Go.Proofs.YtocfhkmdkdjinaaDoor

/- A slice of elements, one at least, is not nil. Over any program. -/
namespace Go.Proofs.YtocfhkmdkdjinaaDoor
open Go Go.RowKit
set_option linter.unusedVariables false
set_option linter.unusedSimpArgs false
section
variable {C : Ctx} {s : St} {ρ : Nat → Pl} {S : Nat → Prop} {Φ : Nat → List Nat} {w : World} {pos : String} {after : Array Edge} {gd : Option (Nat × Bool)} {ty : TypeId}
theorem eff_ne {dst : Option Tmp} (T T2 : TypeId) (x y : Operand) {el e m : Nat} {cs : List D} (hx : ev C s x = .ros e m cs) (hy : ev C s y = .nilS) (h0 : 0 < m) (ht : (tiOf C.P T).ty = .slice el) (hd : dstOk C.n dst) :
    Eff C ⟨dst, .binOp .eql T x y T2, ty, pos, after, gd⟩ s (.bool false) [] (opT x ++ opT y) [] :=
  eff_pure hd fun σ hT hR a w ρ S Φ h1 h2 => by
    obtain ⟨q1, q2⟩ := opT2 (C := C) hT
    have vx := ev_rv h1 h2 x
    rw [q1, hx] at vx
    have vy := ev_rv h1 h2 y
    rw [q2, hy] at vy
    have e2 := inv_nilS vy
    generalize hv : a.eval x = v at vx
    cases vx with
    | ros _ _ _ A cap b off us hl hn hm hA hc hr =>
      obtain ⟨rfl, -⟩ := hA h0
      refine ⟨.bool false, ?_, .bool false⟩
      have := Lib.run_eql_slice_nil (P := C.P) w T el (some ⟨b, off, none⟩) m cap 0 0 (ti_slice ht)
      have h5 : (eqGuard .eql T x y (Value.slice (some ⟨b, off, none⟩) m cap) (Value.slice none 0 0)).run C.P w = .ok () w := rfl
      have h6 : (binOp .eql T (Value.slice (some ⟨b, off, none⟩) m cap) (Value.slice none 0 0)).run C.P w = .ok (.bool false) w := this
      simp [execOp, hv, e2, h5, h6]
variable {Ti : Nat → TI} {G : Nat → Option D} {n : Nat} {ops : Array Oper} {acc acc' : Acc} {rest rest' : List Oper} {s1 s2 : St} {K : Acc → St → Prop} {W : St → St → Prop}
/-- A slice of elements, one at least, asked for nil. -/
theorem NE_ {t : Nat} {T T2 el : TypeId} {x y : Operand} {e m : Nat} {cs : List D} (hE : Env C Ti G n) (h0 : 0 < m) (hk : RG C ops W (([], []) :: acc) rest s2 K)
    (hx : frc (evg G s x) = some (.ros e m cs) := by exact rfl) (hy : frc (evg G s y) = some .nilS := by exact rfl) (ht : (Ti T).ty = .slice el := by exact rfl)
    (hc : gcO ops s gd = .yes := by exact rfl) (hb : dstB n (some t) = true := by exact rfl) (hs : s.puto (some t) (.bool false) = s2 := by exact nr_) : RG C ops W acc (⟨some t, .binOp .eql T x y T2, ty, pos, after, gd⟩ :: rest) s K := by
  subst hs
  intro M hM hW hend
  have hx' := frc_ok hx
  have hy' := frc_ok hy
  rw [← hE.g, ← ev_g] at hx' hy'
  rw [← hE.ti] at ht
  refine hM.step _ _ _ _ _ [] [] (effG_yes (o := ⟨some t, _, ty, pos, after, gd⟩) hc ((eff_ne T T2 x y hx' hy' h0 ht (dstB_ok hE hb)).weak ?_ (fun _ h => h))) (hk M hM hW hend)
  intro v hv
  simp only [opsT, Op.operands, List.mem_flatMap] at hv ⊢
  rcases List.mem_append.1 hv with hv | hv
  · exact ⟨x, by simp, hv⟩
  · exact ⟨y, by simp, hv⟩
end
theorem mat_ros2 {s : St} {o g len : Nat} {L : List (Int × List UInt8)} (ho : (s.ob o).ct = some (.cells (atR L))) (hg : g = (s.sh o).gen) (he : (s.sh o).esz = 2) (hl : len = L.length) : Mat s (.sl o g 0 len) (.ros 2 L.length (atR L)) [] [o] := by
  subst hl
  refine .sl_rs o g 0 L.length 2 (atR L) (atR L) [] ho hg he (by decide) ?_ ?_
  · rw [← atR_len, List.drop_zero, List.take_length]; exact atR_sc L
  · rw [← atR_len, List.drop_zero, List.take_length]; exact .tall _ (atR_pf L)
end Go.Proofs.YtocfhkmdkdjinaaDoor

/- slices.Clone of attributes. Printed by wp.py. -/
namespace Go.Proofs.YtocfhkmdkdjinaaDoor
open Go Go.RowKit
set_option linter.unusedVariables false
set_option linter.unusedSimpArgs false
set_option maxRecDepth 100000
set_option maxHeartbeats 4000000
attribute [local irreducible] inR VC RG VCn sq inS lq nq jq Wk

theorem atR_pf0 (L : List (Int × List UInt8)) : (atR L).all D.pf0 = true := at_all _ _ _ (fun _ => rfl) (fun _ => rfl) L
theorem ros_adl (L : List (Int × List UInt8)) : D.adL [.ros 2 L.length (atR L)] = true := by
  show ((atR L).all D.pf0 && true) = true
  rw [atR_pf0]
  rfl
namespace Uaclone_fc
theorem U : type_of% (@drop_rep UInt8) ∧ type_of% (@drop_rep D) ∧ type_of% (@List.take_zero UInt8) ∧ type_of% (@List.take_zero D) ∧ type_of% @q16_take ∧ type_of% @q16_len ∧ type_of% @q16_fold ∧ type_of% @q16_map ∧ type_of% @decL ∧ type_of% @decI ∧ type_of% @atR_len ∧ type_of% @atO_len ∧ type_of% @atR_sc ∧ type_of% @atR_tk ∧ type_of% @atR_app1 := ⟨(@drop_rep UInt8), (@drop_rep D), (@List.take_zero UInt8), (@List.take_zero D), @q16_take, @q16_len, @q16_fold, @q16_map, @decL, @decI, @atR_len, @atO_len, @atR_sc, @atR_tk, @atR_app1⟩
end Uaclone_fc
open Uaclone_fc
theorem aclone_fc (L : List (Int × List UInt8)) (h0 : 0 < L.length) (hL : L.length ≤ 1000000) : FC Tryd.prog GE 108 [.ros 2 L.length (atR L)] (.owns 2 L.length (atR L)) none := by
  refine fi_ 8 [2] ti_eq gpE Tryd.func108 (fun C hE hm hP hrc hrn => ?_) (had := (ros_adl L))
  refine vs ?_
  refine R_ hE ?_
  refine sq_n ?_
  refine vs ?_
  refine vs ?_
  first | refine O_ ?_ | refine OD_ hm ?_
  refine G_ 1 hE ?_
  refine NE_ hE h0 ?_
  refine G_ 200 hE ?_
  first | refine rz ?_ | refine ZD_ ?_
  refine A_ ?_
  exact ret_ (h := by exact ma3_)
end Go.Proofs.YtocfhkmdkdjinaaDoor
