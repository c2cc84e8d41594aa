/- What the claim leans on, text Zsj: Ra28. No condition beyond what each lemma states. -/
import Derived.Test.YtocfhkmdkdjinaaDoorZd
import Derived.Test.YtocfhkmdkdjinaaDoorZt
import Derived.Test.YtocfhkmdkdjinaaDoorZsc
import Derived.Test.YtocfhkmdkdjinaaDoorZsb

/- RadiusRooms returns true. Printed by wp.py. -/
namespace Go.Proofs.YtocfhkmdkdjinaaDoor
open Go Go.RowKit
set_option linter.unusedVariables false
set_option linter.unusedSimpArgs false
set_option maxRecDepth 100000
set_option maxHeartbeats 4000000
attribute [local irreducible] inR VC RG VCn sq inS lq nq jq Wk
attribute [local simp] nmL_atO atO_fr atO_len
theorem cn_none : ∀ (L : List (Int × List UInt8)), (∀ a ∈ L, a.1 = 5) → ¬ 0 ≤ idxM L := by
  intro L h h0
  have h1 := mt (mk_zero L).2 (fun q => ?_)
  · exact h1 (by
      rw [mkN_all]
      unfold cnM
      rw [List.countP_eq_zero]
      intro a ha
      rw [h a ha]
      decide)
  · exact absurd h0 (by omega)
theorem rooms_w (z : Nat) (A : List (Int × List UInt8)) (h1 : (bodyA A).length = z - 20) (hz : 20 ≤ z) (h2 : A.all okA = true) : ∃ (X : List UInt8) (e : Int), wrV 1 1 (q16 z16) A = (X, e) ∧ ((z ≤ 4096 ∧ e = 0 ∧ X.length = z) ∨ (4096 < z ∧ e = 2)) := by
  by_cases h : z ≤ 4096
  · have hw : wrO 1 1 A = true := (wrO_iff 1 1 A).2 ⟨rfl, by omega, by omega, h2, by omega⟩
    exact ⟨_, _, wrV_yes hw, .inl ⟨h, rfl, by rw [wrS_len, q16_len]; omega⟩⟩
  · have hw : wrO 1 1 A = false := by
      cases hw : wrO 1 1 A
      · rfl
      · have := ((wrO_iff 1 1 A).1 hw).2.2.2.2
        omega
    exact ⟨_, _, wrV_no hw, .inr ⟨by omega, rfl⟩⟩
theorem rooms_s (z : Nat) (A : List (Int × List UInt8)) (h1 : (bodyA A).length = z - 20) (hz : 20 ≤ z) (h2 : A.all okA = true) (h3 : ¬ 0 ≤ idxM A) : ∃ (X : List UInt8) (e : Int), slV 1 1 (q16 z16) A [115] = (X, e) ∧ ((z + 18 ≤ 4096 ∧ e = 0 ∧ X.length = z + 18) ∨ (4096 < z + 18 ∧ e = 2)) := by
  rw [slV_yes rfl h3]
  have hb : (bodyA (A ++ [(80, z16)])).length = z - 2 := by
    rw [bodyA_snoc A z16 z16_len]
    simp only [List.length_append, z16_len, List.length_cons, List.length_nil]
    omega
  by_cases h : z + 18 ≤ 4096
  · have hw : wrO 1 1 (A ++ [(80, z16)]) = true := (wrO_iff 1 1 _).2 ⟨rfl, by omega, by omega, by rw [List.all_append, h2]; decide, by omega⟩
    refine ⟨_, _, seV_yes hw, .inl ⟨h, rfl, ?_⟩⟩
    unfold seL
    rw [wrS_len, q16_len, bodyA_snoc A _ (hmM_len _ _)]
    simp only [List.length_append, hmM_len, List.length_cons, List.length_nil]
    omega
  · have hw : wrO 1 1 (A ++ [(80, z16)]) = false := by
      cases hw : wrO 1 1 (A ++ [(80, z16)])
      · rfl
      · have := ((wrO_iff 1 1 _).1 hw).2.2.2.2
        omega
    exact ⟨_, _, seV_no hw, .inr ⟨by omega, rfl⟩⟩
attribute [local irreducible] bodyA wrS wrO idxF idxM z16 seV slV rpV rdO rdS prs rdP prC mkN mkL wrV seL cutI opA ofP opnP opdP opdS md

namespace UradiusRooms_fc
theorem U : type_of% (@drop_rep UInt8) ∧ type_of% (@drop_rep D) ∧ type_of% (@List.take_zero UInt8) ∧ type_of% (@List.take_zero D) ∧ type_of% @q16_take ∧ type_of% @q16_len ∧ type_of% @q16_fold ∧ type_of% @q16_map ∧ type_of% @decL ∧ type_of% @decI ∧ type_of% @atS_len ∧ type_of% @atR_len ∧ type_of% @atO_len ∧ type_of% @md_len ∧ type_of% @md_take ∧ type_of% @hmM_len ∧ type_of% @hmM_take := ⟨(@drop_rep UInt8), (@drop_rep D), (@List.take_zero UInt8), (@List.take_zero D), @q16_take, @q16_len, @q16_fold, @q16_map, @decL, @decI, @atS_len, @atR_len, @atO_len, @md_len, @md_take, @hmM_len, @hmM_take⟩
end UradiusRooms_fc
open UradiusRooms_fc
theorem radiusRooms_fc (n : Int) : FC Tryd.prog GO 10 [.int .i64 n] (.bool true) none := by
  refine fi_ 97 [2] ti_eq gpO Tryd.func10 (fun C hE hm hP hrc hrn => ?_)
  have hw1 := wr64 n
  refine A_ ?_
  obtain ⟨z, hz⟩ : ∃ z : Nat, (4060 : Int) + IntKind.u64.wrap n % 45 = z := ⟨((4060 : Int) + IntKind.u64.wrap n % 45).toNat, by omega⟩
  have hz1 : 4060 ≤ z := by omega
  have hz2 : z < 4105 := by omega
  rw [hz]
  refine VC.weak ?_ (knilcs 3 18 2 (by exact rfl) (by exact rfl) (by exact rfl))
  refine wv_ (sos_ 3 18 960 0) ?_
  refine vl (fun a : List (Int × List UInt8) × Nat => ⟨[(0, .int .i64 z), (2, .bool false), (3, .ptr 3 1 0), (4, .int .i64 a.2)], [(3, ⟨⟨1, 1, 19⟩, some (.cells [.int .i64 1, .int .i64 1, .u8 0, .u8 0, .u8 0, .u8 0, .u8 0, .u8 0, .u8 0, .u8 0, .u8 0, .u8 0, .u8 0, .u8 0, .u8 0, .u8 0, .u8 0, .u8 0, .sl 960 (1 + a.1.length) 0 a.1.length])⟩), (960, ⟨⟨1 + a.1.length, 2, a.1.length * 2⟩, some (.cells (atO a.1))⟩)], []⟩) (fun a => (bodyA a.1).length + a.2 = z - 20 ∧ a.1.all okA = true ∧ (∀ b ∈ a.1, b.1 = 5) ∧ a.2 ≠ 1) (fun a => a.2) ([], z - 20) ?_ ⟨by rw [bodyA_nil]; simp, rfl, by simp, by simp only; omega⟩ ?_
  · rw [show ((z - 20 : Nat) : Int) = (z : Int) - 20 by omega]
    exact wk_ hrc
  rintro ⟨A, r⟩ ⟨h1, h2, h3, h4⟩
  simp only at h1 h2 h3 h4 ⊢
  by_cases hr : r = 0
  · subst hr
    have hn5 := cn_none A h3
    have hA20 := bodyA_ge A
    obtain ⟨X, e, hX, hXc⟩ := rooms_w z A (by omega) (by omega) h2
    obtain ⟨Y, f, hY, hYc⟩ := rooms_s z A (by omega) (by omega) h2 hn5
    have wf := write_fc 1 1 z16 A
    have sf := seal_fc 1 1 z16 A [115] (by omega) (by simp)
    rw [hX] at wf
    rw [hY] at sf
    simp only [z16_gb] at wf sf
    refine A_ ?_
    refine VC.weak ?_ (kfreeze 960 (by exact rfl) (by exact atO_fr A) (by exact atO_frz A))
    first | refine O_ ?_ | refine OD_ hm ?_
    refine G_ 1 hE ?_
    refine rc_ hE hP (wf.any) Tryd.func31 ?_ (hm := by exact ma2_) (hnr := by exact nrt2_) (had := by exact adt2_)
    refine G_ 200 hE ?_
    first | refine rz ?_ | refine ZD_ ?_
    refine A_ ?_
    first | refine O_ ?_ | refine OD_ hm ?_
    refine G_ 3 hE ?_
    refine rco_ hE hP (sf) Tryd.func38 ?_
    refine G_ 200 hE ?_
    first | refine rz ?_ | refine ZD_ ?_
    refine A_ ?_
    rcases hXc with ⟨q1, rfl, q3⟩ | ⟨q1, rfl⟩
    · rcases hYc with ⟨q4, rfl, q6⟩ | ⟨q4, rfl⟩
      · first | refine O_ ?_ | refine OD_ hm ?_
        refine rc_ hE hP (speaks_fc) Tryd.func33 ?_
        refine G_ 1 hE ?_
        refine GT_ hE (rfl) ?_
        refine GT_ hE (rfl) ?_
        refine GT_ hE (rfl) ?_
        refine GT_ hE (rfl) ?_
        rw [decide_eq_true (show (z : Int) ≤ 4096 by omega)]
        refine GT_ hE (rfl) ?_
        refine G_ 2 hE ?_
        refine GT_ hE (rfl) ?_
        refine GT_ hE (rfl) ?_
        refine GT_ hE (rfl) ?_
        refine GT_ hE (rfl) ?_
        refine GT_ hE (rfl) ?_
        rw [decide_eq_true (show (z : Int) + 18 ≤ 4096 by omega)]
        refine GT_ hE (rfl) ?_
        refine G_ 2 hE ?_
        refine GT_ hE (rfl) ?_
        refine GT_ hE (rfl) ?_
        refine GT_ hE (rfl) ?_
        refine GT_ hE (rfl) ?_
        refine GT_ hE (rfl) ?_
        refine GT_ hE (rfl) ?_
        refine GT_ hE (rfl) ?_
        rw [decide_eq_true (show (X.length : Int) = (z : Int) by omega)]
        refine GT_ hE (rfl) ?_
        refine GT_ hE (rfl) ?_
        refine GF_ hE (rfl) ?_
        refine GI_ (.bool true) hE (rfl) ?_
        refine GT_ hE (rfl) ?_
        refine G_ 2 hE ?_
        refine GT_ hE (rfl) ?_
        refine GT_ hE (rfl) ?_
        refine GT_ hE (rfl) ?_
        refine GT_ hE (rfl) ?_
        refine GT_ hE (rfl) ?_
        refine GT_ hE (rfl) ?_
        refine GT_ hE (rfl) ?_
        refine GT_ hE (rfl) ?_
        rw [decide_eq_true (show (Y.length : Int) = (z : Int) + 18 by omega)]
        refine GT_ hE (rfl) ?_
        refine GT_ hE (rfl) ?_
        refine GF_ hE (rfl) ?_
        refine GI_ (.bool true) hE (rfl) ?_
        refine GT_ hE (rfl) ?_
        refine G_ 200 hE ?_
        first | refine rz ?_ | refine ZD_ ?_
        refine A_ ?_
        exact ret_
      · first | refine O_ ?_ | refine OD_ hm ?_
        refine rc_ hE hP (speaks_fc) Tryd.func33 ?_
        refine G_ 1 hE ?_
        refine GT_ hE (rfl) ?_
        refine GT_ hE (rfl) ?_
        refine GT_ hE (rfl) ?_
        refine GT_ hE (rfl) ?_
        rw [decide_eq_true (show (z : Int) ≤ 4096 by omega)]
        refine GT_ hE (rfl) ?_
        refine G_ 2 hE ?_
        refine GT_ hE (rfl) ?_
        refine GT_ hE (rfl) ?_
        refine GT_ hE (rfl) ?_
        refine GT_ hE (rfl) ?_
        refine GT_ hE (rfl) ?_
        rw [decide_eq_false (show ¬ (z : Int) + 18 ≤ 4096 by omega)]
        refine GT_ hE (rfl) ?_
        refine G_ 2 hE ?_
        refine GT_ hE (rfl) ?_
        refine GT_ hE (rfl) ?_
        refine GT_ hE (rfl) ?_
        refine GT_ hE (rfl) ?_
        refine GT_ hE (rfl) ?_
        refine GT_ hE (rfl) ?_
        refine GT_ hE (rfl) ?_
        rw [decide_eq_true (show (X.length : Int) = (z : Int) by omega)]
        refine GT_ hE (rfl) ?_
        refine GT_ hE (rfl) ?_
        refine GF_ hE (rfl) ?_
        refine GI_ (.bool true) hE (rfl) ?_
        refine GT_ hE (rfl) ?_
        refine G_ 2 hE ?_
        refine GT_ hE (rfl) ?_
        refine GT_ hE (rfl) ?_
        refine GT_ hE (rfl) ?_
        refine GF_ hE (rfl) ?_
        refine GF_ hE (rfl) ?_
        refine GF_ hE (rfl) ?_
        refine GF_ hE (rfl) ?_
        refine GI_ (.bool true) hE (rfl) ?_
        refine GT_ hE (rfl) ?_
        refine GT_ hE (rfl) ?_
        refine GT_ hE (rfl) ?_
        refine GT_ hE (rfl) ?_
        refine GT_ hE (rfl) ?_
        refine G_ 200 hE ?_
        first | refine rz ?_ | refine ZD_ ?_
        refine A_ ?_
        exact ret_
    · rcases hYc with ⟨q4, rfl, q6⟩ | ⟨q4, rfl⟩
      · omega
      · first | refine O_ ?_ | refine OD_ hm ?_
        refine rc_ hE hP (speaks_fc) Tryd.func33 ?_
        refine G_ 1 hE ?_
        refine GT_ hE (rfl) ?_
        refine GT_ hE (rfl) ?_
        refine GT_ hE (rfl) ?_
        refine GT_ hE (rfl) ?_
        rw [decide_eq_false (show ¬ (z : Int) ≤ 4096 by omega)]
        refine GT_ hE (rfl) ?_
        refine G_ 2 hE ?_
        refine GT_ hE (rfl) ?_
        refine GT_ hE (rfl) ?_
        refine GT_ hE (rfl) ?_
        refine GT_ hE (rfl) ?_
        refine GT_ hE (rfl) ?_
        rw [decide_eq_false (show ¬ (z : Int) + 18 ≤ 4096 by omega)]
        refine GT_ hE (rfl) ?_
        refine G_ 2 hE ?_
        refine GT_ hE (rfl) ?_
        refine GT_ hE (rfl) ?_
        refine GT_ hE (rfl) ?_
        refine GF_ hE (rfl) ?_
        refine GF_ hE (rfl) ?_
        refine GF_ hE (rfl) ?_
        refine GI_ (.bool true) hE (rfl) ?_
        refine GT_ hE (rfl) ?_
        refine GT_ hE (rfl) ?_
        refine GT_ hE (rfl) ?_
        refine GT_ hE (rfl) ?_
        refine GT_ hE (rfl) ?_
        refine G_ 2 hE ?_
        refine GT_ hE (rfl) ?_
        refine GT_ hE (rfl) ?_
        refine GT_ hE (rfl) ?_
        refine GF_ hE (rfl) ?_
        refine GF_ hE (rfl) ?_
        refine GF_ hE (rfl) ?_
        refine GF_ hE (rfl) ?_
        refine GI_ (.bool true) hE (rfl) ?_
        refine GT_ hE (rfl) ?_
        refine GT_ hE (rfl) ?_
        refine GT_ hE (rfl) ?_
        refine GT_ hE (rfl) ?_
        refine GT_ hE (rfl) ?_
        refine G_ 200 hE ?_
        first | refine rz ?_ | refine ZD_ ?_
        refine A_ ?_
        exact ret_
  · have hAn : A.length ≤ 5000 := by have := bodyA_ge A; omega
    refine A_ ?_
    refine C_ hE (fun hc => ?_) (fun hc => ?_) <;> (try (exfalso; omega))
    refine A_ ?_
    by_cases hq : r = 256
    · rw [show min (r : Int) 255 = 255 by omega]
      refine A_ ?_
      refine C_ hE (fun hc2 => ?_) (fun hc2 => ?_) <;> (try (exfalso; omega))
      refine A_ ?_
      first | refine O_ ?_ | refine OD_ hm ?_
      refine G_ 5 hE ?_
      obtain ⟨V, hV⟩ : ∃ V : List UInt8, V = List.replicate ((255 : Int) - 1 - 2).toNat 0 := ⟨_, rfl⟩
      have hVl : V.length = ((255 : Int) - 1 - 2).toNat := by rw [hV, List.length_replicate]
      rw [← hV, ← hVl]
      refine G_ 2 hE ?_
      refine AO_ hE ?_
      refine G_ 200 hE ?_
      first | refine rz ?_ | refine ZD_ ?_
      refine sq_n ?_
      refine VC.weak ?_ (kclose 960 (A.length * 2 + 1) 32 (by exact rfl) (by exact at_last2 _ _ (atO_len A) _ _) (by exact rfl) (by exact rfl) (by exact rfl) (by exact rfl) (by exact at_set2 _ _ (atO_len A) _ _ _))
      refine A_ ?_
      obtain ⟨A', hA'⟩ : ∃ A', A' = A ++ [((5 : Int), V)] := ⟨_, rfl⟩
      have hAl : A'.length = A.length + 1 := by rw [hA']; simp
      have hAb : (bodyA A').length = (bodyA A).length + (V.length + 2) := by rw [hA', bodyA_app, bodyA_one, List.length_append, enA_len]
      have hAo : A'.all okA = true := by
        rw [hA', List.all_append, h2]
        simp only [List.all_cons, List.all_nil, Bool.and_true, Bool.true_and]
        exact (okA_iff _).2 ⟨by simp, by simp, by simp only; omega⟩
      have hA5 : ∀ b ∈ A', b.1 = 5 := by
        rw [hA']
        intro b hb
        rcases List.mem_append.1 hb with hb | hb
        · exact h3 b hb
        · rw [List.mem_singleton.1 hb]
      rw [atO_snoc, ← hA', show A.length * 2 + 2 = A'.length * 2 by omega, show 1 + A.length + 1 = 1 + A'.length by omega, ← hAl]
      rw [show (r : Int) - (255 - 1) = ((r - 254 : Nat) : Int) by omega]
      refine lq_n (A', r - 254) ?_ ⟨by simp only; rw [hAb]; omega, hAo, hA5, by simp only; omega⟩ (by simp only; omega)
      exact wk_ hrc
    · obtain ⟨m, hmm⟩ : ∃ m : Nat, m = min r 255 := ⟨_, rfl⟩
      rw [show min (r : Int) 255 = (m : Int) by omega]
      refine A_ ?_
      refine C_ hE (fun hc2 => ?_) (fun hc2 => ?_) <;> (try (exfalso; omega))
      refine A_ ?_
      first | refine O_ ?_ | refine OD_ hm ?_
      refine G_ 5 hE ?_
      obtain ⟨V, hV⟩ : ∃ V : List UInt8, V = List.replicate (((m : Int) - 2).toNat) 0 := ⟨_, rfl⟩
      have hVl : V.length = ((m : Int) - 2).toNat := by rw [hV, List.length_replicate]
      rw [← hV, ← hVl]
      refine G_ 2 hE ?_
      refine AO_ hE ?_
      refine G_ 200 hE ?_
      first | refine rz ?_ | refine ZD_ ?_
      refine sq_n ?_
      refine VC.weak ?_ (kclose 960 (A.length * 2 + 1) 32 (by exact rfl) (by exact at_last2 _ _ (atO_len A) _ _) (by exact rfl) (by exact rfl) (by exact rfl) (by exact rfl) (by exact at_set2 _ _ (atO_len A) _ _ _))
      refine A_ ?_
      obtain ⟨A', hA'⟩ : ∃ A', A' = A ++ [((5 : Int), V)] := ⟨_, rfl⟩
      have hAl : A'.length = A.length + 1 := by rw [hA']; simp
      have hAb : (bodyA A').length = (bodyA A).length + (V.length + 2) := by rw [hA', bodyA_app, bodyA_one, List.length_append, enA_len]
      have hAo : A'.all okA = true := by
        rw [hA', List.all_append, h2]
        simp only [List.all_cons, List.all_nil, Bool.and_true, Bool.true_and]
        exact (okA_iff _).2 ⟨by simp, by simp, by simp only; omega⟩
      have hA5 : ∀ b ∈ A', b.1 = 5 := by
        rw [hA']
        intro b hb
        rcases List.mem_append.1 hb with hb | hb
        · exact h3 b hb
        · rw [List.mem_singleton.1 hb]
      rw [atO_snoc, ← hA', show A.length * 2 + 2 = A'.length * 2 by omega, show 1 + A.length + 1 = 1 + A'.length by omega, ← hAl]
      rw [show (r : Int) - (m : Int) = ((r - m : Nat) : Int) by omega]
      refine lq_n (A', r - m) ?_ ⟨by simp only; rw [hAb]; omega, hAo, hA5, by simp only; omega⟩ (by simp only; omega)
      exact wk_ hrc
end Go.Proofs.YtocfhkmdkdjinaaDoor
