/- What the claim leans on, text Zsm: Tk. No condition beyond what each lemma states. -/
import Derived.Test.YtocfhkmdkdjinaaDoorZd
import Derived.Test.YtocfhkmdkdjinaaDoorZt
import Derived.Test.YtocfhkmdkdjinaaDoorZsa
import Derived.Test.YtocfhkmdkdjinaaDoorZj
import Derived.Test.YtocfhkmdkdjinaaDoorZsk
import Derived.Test.YtocfhkmdkdjinaaDoorZg

/- TollgateKeys returns true. Printed by wp.py. -/
namespace Go.Proofs.YtocfhkmdkdjinaaDoor
open Go Go.RowKit
set_option linter.unusedVariables false
set_option linter.unusedSimpArgs false
set_option maxRecDepth 100000
set_option maxHeartbeats 4000000
attribute [local irreducible] inR VC RG VCn sq inS lq nq jq Wk
theorem tk_minK (v : List UInt8) (n : Nat) : List.take (min (v.length : Int) (n : Int)).toNat v = v.take n := by
  rcases Nat.lt_or_ge n v.length with h | h
  · rw [show (min (v.length : Int) (n : Int)).toNat = n by omega]
  · rw [List.take_of_length_le (by omega), List.take_of_length_le h]
theorem rpVK_open {c i : Int} {ak : List UInt8} {L : List (Int × List UInt8)} {sec B : List UInt8} (h : rpV c i (q16 ak) L sec = (B, 0)) : ∃ S, opdP B (q16 ak) sec = (c, i, q16 S, L, 0) := by
  by_cases hc : c = 1
  · rw [rpV_c hc] at h; simp at h
  · by_cases hm : 0 ≤ idxM L
    · rw [rpV_m hm] at h; simp at h
    · by_cases he : (seV c i (q16 ak) L sec).2 = 0
      · rw [rpV_y hc hm he] at h
        rcases hw : wrO c i (L ++ [(80, z16)])
        · rw [seV_no hw] at he; simp at he
        · rw [seV_yes hw] at h
          simp only [Prod.mk.injEq, and_true] at h
          rw [wrS_parts c i (q16 ak) _ _ (q16_len _)] at h
          refine ⟨md (wrS c i (q16 ak) (seL c i (q16 ak) L sec) ++ sec), ?_⟩
          rw [← h, q16_self (md_len _)]
          exact opd_reply c i (q16 ak) L sec _ (q16_len _) hc (by omega) hw rfl
      · rw [rpV_e hc hm he] at h
        simp only [Prod.mk.injEq] at h
        exact absurd h.2 he
theorem rpVK_le {c i : Int} {ak : List UInt8} {L : List (Int × List UInt8)} {sec B : List UInt8} {e : Int} (h : rpV c i (q16 ak) L sec = (B, e)) : B.length ≤ 5000 := by
  by_cases hc : c = 1
  · rw [rpV_c hc] at h
    simp only [Prod.mk.injEq] at h
    rw [← h.1]; simp
  · by_cases hm : 0 ≤ idxM L
    · rw [rpV_m hm] at h
      simp only [Prod.mk.injEq] at h
      rw [← h.1]; simp
    · have := (seV_le c i (q16 ak) sec L (q16_len _)).1
      by_cases he : (seV c i (q16 ak) L sec).2 = 0
      · rw [rpV_y hc hm he] at h
        simp only [Prod.mk.injEq] at h
        rw [← h.1]
        simp only [List.length_append, md_len, List.length_take, List.length_drop]
        omega
      · rw [rpV_e hc hm he] at h
        simp only [Prod.mk.injEq] at h
        rw [← h.1]; simp
theorem z16K_gb (i : Nat) : gb z16 i = 0 := by
  unfold z16 gb
  rw [List.getD_eq_getElem?_getD, List.getElem?_replicate]
  split <;> rfl
theorem wrB_len (k : Int) (key salt asked sec : List UInt8) (hs : salt.length = 2) (hk : key.length = 32) : (wrB k key salt asked sec).length = 56 := by
  unfold wrB
  simp only [List.length_append, List.length_cons, List.length_nil, hs, hid_length]
  rw [show (pad16 (b8 (key.length : Int) :: key)).length = 48 from ?_]
  · rfl
  · unfold pad16
    simp only [List.length_append, List.length_cons, List.length_replicate, hk]
theorem keys_wr (k : Int) (x : UInt8) (hk : kdOk k = true) (hx : 128 ≤ x.toNat) (K la S : List UInt8) (hK : K.length = 32) : ∃ A, wrR k K (q2 [x, 1]) (q16 la) S = (A, 0) ∧ A.length = 56 ∧ unw A (q16 la) S = (k, K, 0) := by
  have hc : wrC k K (q2 [x, 1]) = true := by
    unfold wrC
    rw [hk, hK]
    have : 128 ≤ (gb (q2 [x, 1]) 0).toNat := hx
    simp [this]
  exact ⟨wrB k K (q2 [x, 1]) (q16 la) S, by unfold wrR; rw [if_pos hc], wrB_len _ _ _ _ _ rfl hK, un_wr k K _ _ S (q16_len _) rfl hc⟩
theorem keys_rp (A B ak S : List UInt8) (ha : A.length = 56) (hb : B.length = 56) : ∃ R S2, rpV 2 9 (q16 ak) [(26, A), (26, B)] S = (R, 0) ∧ opdP R (q16 ak) S = (2, 9, q16 S2, [(26, A), (26, B)], 0) := by
  have hm : ¬ 0 ≤ idxM [(26, A), (26, B)] := by
    have : idxM [(26, A), (26, B)] = -1 := rfl
    omega
  have hw : wrO 2 9 ([(26, A), (26, B)] ++ [(80, z16)]) = true := (wrO_iff _ _ _).2 ⟨rfl, by omega, by omega, by
    simp only [List.cons_append, List.nil_append, List.all_cons, List.all_nil, Bool.and_true, Bool.and_eq_true]
    exact ⟨(okA_iff _).2 ⟨by simp, by simp, by simp only; omega⟩, (okA_iff _).2 ⟨by simp, by simp, by simp only; omega⟩, by decide⟩, by
    simp only [List.cons_append, List.nil_append, bodyA_cons, bodyA_nil, List.length_append, enA_len, ha, hb, z16_len, List.length_nil]
    omega⟩
  have he : (seV 2 9 (q16 ak) [(26, A), (26, B)] S).2 = 0 := by rw [seV_yes hw]
  have h := rpV_y (sec := S) (show ¬ (2 : Int) = 1 by decide) hm he
  obtain ⟨S2, h2⟩ := rpVK_open h
  exact ⟨_, S2, h, h2⟩
attribute [local irreducible] bodyA wrS wrO idxF idxM z16 seV slV rpV rdO rdS prs rdP prC seL cutI opA ofP opnP opdP opdS md wrR wrB unw

namespace UtollgateKeys_fc
theorem U : type_of% (@drop_rep UInt8) ∧ type_of% (@drop_rep D) ∧ type_of% (@List.take_zero UInt8) ∧ type_of% (@List.take_zero D) ∧ type_of% @q16_take ∧ type_of% @q16_len ∧ type_of% @q16_fold ∧ type_of% @q16_map ∧ type_of% @decL ∧ type_of% @decI ∧ type_of% @atS_len ∧ type_of% @atR_len ∧ type_of% @atO_len ∧ type_of% @md_len ∧ type_of% @md_take ∧ type_of% @hmM_len ∧ type_of% @hmM_take := ⟨(@drop_rep UInt8), (@drop_rep D), (@List.take_zero UInt8), (@List.take_zero D), @q16_take, @q16_len, @q16_fold, @q16_map, @decL, @decI, @atS_len, @atR_len, @atO_len, @md_len, @md_take, @hmM_len, @hmM_take⟩
end UtollgateKeys_fc
open UtollgateKeys_fc
theorem tollgateKeys_fc (lk la ls : List UInt8) (hk : lk.length = 64) : FC Tryd.prog GA 3 [.aggb lk, .aggb (q16 la), .rob ls] (.bool true) none := by
  refine fi_ 141 [6] ti_eq gpA Tryd.func3 (fun C hE hm hP hrc hrn => ?_)
  have t2 : List.take (min (ls.length : Int) 30).toNat ls = ls.take 30 := tk_minK ls 30
  have n2 : (ls.take 30).length ≤ 30 := by rw [List.length_take]; omega
  obtain ⟨S, hS⟩ : ∃ S, S = ls.take 30 := ⟨_, rfl⟩
  rw [← hS] at n2 t2
  obtain ⟨K0, hK0⟩ : ∃ K, K = lk.take 32 := ⟨_, rfl⟩
  obtain ⟨K1, hK1⟩ : ∃ K, K = lk.drop 32 := ⟨_, rfl⟩
  have hK0l : K0.length = 32 := by rw [hK0, List.length_take]; omega
  have hK1l : K1.length = 32 := by rw [hK1, List.length_drop]; omega
  have e1 : List.take 32 lk ++ List.drop (min 32 lk.length) (List.replicate 32 0) = K0 := by rw [hk, ← hK0]; simp
  have e2 : List.take 32 (List.drop 32 lk) ++ List.drop (min 32 (lk.length - 32)) (List.replicate 32 0) = K1 := by rw [hk, ← hK1, List.take_of_length_le (by omega)]; simp
  obtain ⟨A, hA, hAl, hAu⟩ := keys_wr 17 128 (by decide) (by decide) K0 la S hK0l
  obtain ⟨B, hB, hBl, hBu⟩ := keys_wr 16 129 (by decide) (by decide) K1 la S hK1l
  obtain ⟨R, S2, hR, hRo⟩ := keys_rp A B la S hAl hBl
  have hRl := rpVK_le hR
  have f1 := (wrap_fc 17 K0 [128, 1] la S (by omega) (by omega)).more GO_A
  have f2 := (wrap_fc 16 K1 [129, 1] la S (by omega) (by omega)).more GO_A
  have f3 := (reply_fc 2 9 z16 la [(26, A), (26, B)] S (by simp) (by omega)).more GO_A
  have f4 := (opened_fc R la S 2 9 S2 [(26, A), (26, B)] 0 (by omega) (by omega) hRo).more GO_A
  have f5 := (unwrap_fc A la S (by omega) (by omega)).more GO_A
  have f6 := (unwrap_fc B la S (by omega) (by omega)).more GO_A
  rw [hA] at f1
  rw [hB] at f2
  rw [hR] at f3
  rw [hAu] at f5
  rw [hBu] at f6
  simp only [z16K_gb] at f3
  refine A_ ?_
  rw [t2, e1, e2]
  first | refine O_ ?_ | refine OD_ hm ?_
  refine G_ 4 hE ?_
  refine rc_ hE hP (f1) Tryd.func19 ?_
  refine G_ 200 hE ?_
  first | refine rz ?_ | refine ZD_ ?_
  refine A_ ?_
  refine wv_ (sgb_ 9 35) ?_
  first | refine O_ ?_ | refine OD_ hm ?_
  refine G_ 4 hE ?_
  refine rc_ hE hP (f2) Tryd.func19 ?_
  refine G_ 200 hE ?_
  first | refine rz ?_ | refine ZD_ ?_
  refine A_ ?_
  refine wv_ (sgb_ 11 43) ?_
  first | refine O_ ?_ | refine OD_ hm ?_
  refine G_ 8 hE ?_
  refine rco_ hE hP (f3) Tryd.func20 ?_
  refine G_ 200 hE ?_
  first | refine rz ?_ | refine ZD_ ?_
  refine A_ ?_
  refine wv_ (sgb_ 13 55) ?_
  first | refine O_ ?_ | refine OD_ hm ?_
  refine G_ 3 hE ?_
  refine rc_ hE hP (f4) Tryd.func21 ?_ (hm := by exact ma2_) (hnr := by exact nrt2_) (had := by exact adt2_)
  refine G_ 200 hE ?_
  first | refine rz ?_ | refine ZD_ ?_
  rw [show ([((26 : Int), A), (26, B)] : List (Int × List UInt8)).length = 2 from rfl, show atR [((26 : Int), A), (26, B)] = [D.int .i64 26, D.rob A, D.int .i64 26, D.rob B] from rfl]
  refine A_ ?_
  first | refine O_ ?_ | refine OD_ hm ?_
  refine rc_ hE hP (stands_fc.more GS_A) Tryd.func22 ?_
  refine G_ 200 hE ?_
  first | refine rz ?_ | refine ZD_ ?_
  refine A_ ?_
  first | refine O_ ?_ | refine OD_ hm ?_
  refine G_ 7 hE ?_
  refine rc_ hE hP (f5) Tryd.func23 ?_
  refine G_ 200 hE ?_
  first | refine rz ?_ | refine ZD_ ?_
  refine A_ ?_
  first | refine O_ ?_ | refine OD_ hm ?_
  refine G_ 7 hE ?_
  refine rc_ hE hP (f6) Tryd.func23 ?_
  refine G_ 200 hE ?_
  first | refine rz ?_ | refine ZD_ ?_
  have q1 : List.take 32 K0 = K0 := List.take_of_length_le (by omega)
  have q2 : List.take 32 K1 = K1 := List.take_of_length_le (by omega)
  refine A_ ?_
  exact ret_ (h := by (first | exact Mat.tnil | apply mat1 rfl | apply mat2 rfl rfl | apply mat3 rfl rfl rfl) <;> (repeat' (first | exact .tnil | exact mat_eq rfl rfl | apply mat_i | apply mat_bl | apply mat_u8 | apply mat_u32 | apply mat_st | apply mat_ab | apply mat_rbe | apply mat_nrb | apply mat_nob | exact mat_nos rfl rfl | exact mat_rf0 rfl | exact mat_trob | (apply mat_rf rfl rfl rfl) | refine mat_slf (e := 1) rfl rfl rfl rfl ?_ ?_ ?_ (by first | exact fr0_rob _ | exact fr0_str _ | exact fr0_str _) | (apply mat_sls rfl rfl rfl rfl rfl rfl) | exact mat_pf rfl rfl rfl rfl rfl | (apply mat_s0 rfl rfl rfl; (· first | rfl | (simp <;> fail) | (simp; omega) | omega)) | (apply mat_r0 rfl rfl rfl; (· first | rfl | (simp <;> fail) | (simp; omega) | omega)) | apply mat_sl rfl rfl rfl | apply mat_rb rfl rfl rfl | apply mat_p rfl rfl rfl rfl | apply mc)) <;> (first | rfl | assumption | (simp only [Z, U, Int.cast_ofNat_Int, UInt8.reduceToNat, UInt32.reduceToNat, Nat.reduceAdd, Nat.reduceMul, Nat.reduceSub, Nat.reduceLeDiff, Int.reduceToNat, Int.reducePow, Nat.reducePow] <;> fail) | (simp <;> fail) | omega | (simp [List.take_of_length_le] <;> fail) | (simp [q1, q2])))
end Go.Proofs.YtocfhkmdkdjinaaDoor
