/- What the claim leans on, text Zo: Sh16. No condition beyond what each lemma states. -/
import Derived.Test.YtkokcibnkcmcjaaDoorZt
import Derived.Test.YtkokcibnkcmcjaaDoorZm

/- Expand, of mac and of the reference. Printed by wp.py. -/
namespace Go.Proofs.YtkokcibnkcmcjaaDoor
open Go Go.RowKit
set_option linter.unusedVariables false
set_option linter.unusedSimpArgs false
set_option maxRecDepth 100000
set_option maxHeartbeats 4000000
set_option hygiene false in
local macro "wc9a1a_0" : tactic => `(tactic| (repeat' (first | refine vs ?_ | ((first | apply vr rfl hE 200 rfl | (apply vrD rfl hE hm 200 rfl; (· kernel_rfl))); (· (try simp only [Z, stC_len, sha_take, sha_length, drop_rep, List.take_zero, hm_length, hm_take, Int.cast_ofNat_Int, UInt8.reduceToNat, UInt32.reduceToNat, Nat.reduceAdd, Nat.reduceMul, Nat.reduceSub, Nat.reduceLeDiff, Int.reduceToNat, Int.reducePow, Nat.reducePow]) <;> rfl); (· (repeat' (first | exact trivial | apply And.intro | refine List.forall_mem_cons.2 ?_ | exact List.forall_mem_nil _ | (intro hgd; try exact absurd hgd (by decide)))) <;> first | exact rfl | omega | (simp only [Z, stC_len, sha_take, sha_length, drop_rep, List.take_zero, hm_length, hm_take, Int.cast_ofNat_Int, UInt8.reduceToNat, UInt32.reduceToNat, Nat.reduceAdd, Nat.reduceMul, Nat.reduceSub, Nat.reduceLeDiff, Int.reduceToNat, Int.reducePow, Nat.reducePow]; first | done | omega) | exact Nat.le_of_ble_eq_true rfl | assumption | (simp only [Z, stC_len, sha_take, sha_length, drop_rep, List.take_zero, hm_length, hm_take, Int.cast_ofNat_Int, UInt8.reduceToNat, UInt32.reduceToNat, Nat.reduceAdd, Nat.reduceMul, Nat.reduceSub, Nat.reduceLeDiff, Int.reduceToNat, Int.reducePow, Nat.reducePow, BN] at *; first | done | omega) | (simp_all [Z, BN]; done))) | refine sq_n ?_ | refine vc_skip ?_ | refine vc_exit ?_ | refine vc_ret ?_ | refine sq_r ?_ | refine sq_e ?_ | refine in_n ?_ | refine in_e ?_ | refine in_r ?_ | refine in_x rfl ?_ | refine vb ?_ | refine lq_r ?_ | refine lq_e ?_ | refine nq_r ?_ | refine nq_e ?_ | refine nq_n ?_ | refine vn_s ?_ | refine jq_r ?_ | refine jq_e ?_ | refine vT hE rfl rfl ?_ | refine vF hE rfl rfl ?_ | (refine vc hE rfl (fun hc => ?_) (fun hc => ?_) <;> (try simp only [BN, V1, V2] at hc) <;> (try (exfalso; omega))))))
set_option hygiene false in
local macro "wc9a1a_1" : tactic => `(tactic| (refine wk_of rfl ?_ ?_ hrc <;> (repeat' apply And.intro) <;> first | exact trivial | rfl | (intro o ho; simp [D.nm, nmL, ctNm, nmL_ownb, nmL_rob, nmL_str, nmL_cz] at ho; done) | (intro o ho; simp [D.nm, nmL, ctNm, nmL_ownb, nmL_rob, nmL_str, nmL_cz] at ho ⊢; first | done | omega) | (simp only [Z, stC_len, sha_take, sha_length, drop_rep, List.take_zero, hm_length, hm_take, Int.cast_ofNat_Int, UInt8.reduceToNat, UInt32.reduceToNat, Nat.reduceAdd, Nat.reduceMul, Nat.reduceSub, Nat.reduceLeDiff, Int.reduceToNat, Int.reducePow, Nat.reducePow]; done) | (simp [St.ob, St.slot, look]; done) | (simp [St.ob, St.slot, look]; omega) | simp [St.ob, St.slot, look] | skip))
set_option hygiene false in
local macro "wc9a1a_2" : tactic => `(tactic| (apply rn hE 200 rfl; (· (try simp only [Z, stC_len, sha_take, sha_length, drop_rep, List.take_zero, hm_length, hm_take, Int.cast_ofNat_Int, UInt8.reduceToNat, UInt32.reduceToNat, Nat.reduceAdd, Nat.reduceMul, Nat.reduceSub, Nat.reduceLeDiff, Int.reduceToNat, Int.reducePow, Nat.reducePow]) <;> rfl); (· (repeat' (first | exact trivial | apply And.intro | refine List.forall_mem_cons.2 ?_ | exact List.forall_mem_nil _ | (intro hgd; try exact absurd hgd (by decide)))) <;> first | exact rfl | omega | (simp only [Z, stC_len, sha_take, sha_length, drop_rep, List.take_zero, hm_length, hm_take, Int.cast_ofNat_Int, UInt8.reduceToNat, UInt32.reduceToNat, Nat.reduceAdd, Nat.reduceMul, Nat.reduceSub, Nat.reduceLeDiff, Int.reduceToNat, Int.reducePow, Nat.reducePow]; first | done | omega) | exact Nat.le_of_ble_eq_true rfl | assumption | (simp only [Z, stC_len, sha_take, sha_length, drop_rep, List.take_zero, hm_length, hm_take, Int.cast_ofNat_Int, UInt8.reduceToNat, UInt32.reduceToNat, Nat.reduceAdd, Nat.reduceMul, Nat.reduceSub, Nat.reduceLeDiff, Int.reduceToNat, Int.reducePow, Nat.reducePow, BN] at *; first | done | omega) | (simp_all [Z, BN]; done))))
set_option hygiene false in
local macro "wc9a1a_3" : tactic => `(tactic| (repeat' (first | refine vs ?_ | ((first | apply vr rfl hE 200 rfl | (apply vrD rfl hE hm 200 rfl; (· kernel_rfl))); (· (try simp only [Z, stC_len, sha_take, sha_length, drop_rep, List.take_zero, hm_length, hm_take, Int.cast_ofNat_Int, UInt8.reduceToNat, UInt32.reduceToNat, Nat.reduceAdd, Nat.reduceMul, Nat.reduceSub, Nat.reduceLeDiff, Int.reduceToNat, Int.reducePow, Nat.reducePow]) <;> rfl); (· (repeat' (first | exact trivial | apply And.intro | refine List.forall_mem_cons.2 ?_ | exact List.forall_mem_nil _ | (intro hgd; try exact absurd hgd (by decide)))) <;> first | exact rfl | omega | (simp only [Z, stC_len, sha_take, sha_length, drop_rep, List.take_zero, hm_length, hm_take, Int.cast_ofNat_Int, UInt8.reduceToNat, UInt32.reduceToNat, Nat.reduceAdd, Nat.reduceMul, Nat.reduceSub, Nat.reduceLeDiff, Int.reduceToNat, Int.reducePow, Nat.reducePow]; first | done | omega) | exact Nat.le_of_ble_eq_true rfl | assumption | (simp only [Z, stC_len, sha_take, sha_length, drop_rep, List.take_zero, hm_length, hm_take, Int.cast_ofNat_Int, UInt8.reduceToNat, UInt32.reduceToNat, Nat.reduceAdd, Nat.reduceMul, Nat.reduceSub, Nat.reduceLeDiff, Int.reduceToNat, Int.reducePow, Nat.reducePow, BN] at *; first | done | omega) | (simp_all [Z, BN]; done))) | refine sq_n ?_ | refine vc_skip ?_ | refine vc_exit ?_ | refine vc_ret ?_ | refine sq_r ?_ | refine sq_e ?_ | refine in_n ?_ | refine in_e ?_ | refine in_r ?_ | refine in_x rfl ?_ | refine vb ?_ | refine lq_r ?_ | refine lq_e ?_ | refine nq_r ?_ | refine nq_e ?_ | refine nq_n ?_ | refine vn_s ?_ | refine jq_r ?_ | refine jq_e ?_ | refine vT hE rfl rfl ?_ | refine vF hE rfl rfl ?_)))
set_option hygiene false in
local macro "wc9a1a_4" : tactic => `(tactic| ((first | refine fn_r ?_ | refine fn_n ?_); apply fin0 rfl; (· (first | exact Mat.tnil | apply mat1 rfl | apply mat2 rfl rfl | apply mat3 rfl rfl rfl) <;> (repeat' (first | exact .tnil | exact mat_eq rfl rfl | apply mat_i | apply mat_bl | apply mat_u8 | apply mat_u32 | apply mat_st | apply mat_ab | apply mat_rbe | apply mat_nrb | apply mat_nob | exact mat_nos rfl rfl | exact mat_rf0 rfl | exact mat_trob | (apply mat_rf rfl rfl rfl) | refine mat_slf (e := 1) rfl rfl rfl rfl ?_ ?_ ?_ (by first | exact fr0_rob _ | exact fr0_str _ | exact fr0_str _) | (apply mat_sls rfl rfl rfl rfl rfl rfl) | exact mat_pf rfl rfl rfl rfl rfl | (apply mat_s0 rfl rfl rfl; (· first | rfl | (simp; done) | (simp; omega) | omega)) | (apply mat_r0 rfl rfl rfl; (· first | rfl | (simp; done) | (simp; omega) | omega)) | apply mat_sl rfl rfl rfl | apply mat_rb rfl rfl rfl | apply mat_p rfl rfl rfl rfl | apply mc)) <;> (first | rfl | assumption | (simp only [Z, stC_len, sha_take, sha_length, drop_rep, List.take_zero, hm_length, hm_take, Int.cast_ofNat_Int, UInt8.reduceToNat, UInt32.reduceToNat, Nat.reduceAdd, Nat.reduceMul, Nat.reduceSub, Nat.reduceLeDiff, Int.reduceToNat, Int.reducePow, Nat.reducePow]; done) | (simp; done) | omega | (simp [List.take_of_length_le]; done) | skip)); (· decide); (· decide)))
attribute [local irreducible] inR VC RG VCn sq inS lq nq jq Wk
attribute [local irreducible] sha stH stW abs8 hm
attribute [local simp] sha_length stC_len hm_length

theorem hm_take (k m : List UInt8) : List.take 32 (hm k m) = hm k m := List.take_of_length_le (by rw [hm_length]; decide)
/-- The j-th mark of an expansion; so many of them in a row. -/
def tK (k i : List UInt8) : Nat → List UInt8
  | 0 => []
  | j + 1 => hm k (tK k i j ++ (i ++ [UInt8.ofNat (j + 1)]))
def oK (k i : List UInt8) : Nat → List UInt8
  | 0 => []
  | j + 1 => oK k i j ++ tK k i (j + 1)
theorem tK_succ (k i : List UInt8) (j : Nat) : tK k i (j + 1) = hm k (tK k i j ++ (i ++ [UInt8.ofNat (j + 1)])) := rfl
theorem oK_succ (k i : List UInt8) (j : Nat) : oK k i (j + 1) = oK k i j ++ tK k i (j + 1) := rfl
theorem tK_zero (k i : List UInt8) : tK k i 0 = [] := rfl
theorem oK_zero (k i : List UInt8) : oK k i 0 = [] := rfl
theorem tK_le (k i : List UInt8) (j : Nat) : (tK k i j).length ≤ 32 := by
  cases j with
  | zero => simp [tK]
  | succ j => rw [tK_succ, hm_length]; decide
theorem oK_len (k i : List UInt8) : ∀ j, (oK k i j).length = 32 * j
  | 0 => rfl
  | j + 1 => by rw [oK_succ, List.length_append, oK_len k i j, tK_succ, hm_length]; omega
theorem oK_pre (k i : List UInt8) (n : Nat) : ∀ j d, n ≤ 32 * j → (oK k i (j + d)).take n = (oK k i j).take n
  | j, 0, h => rfl
  | j, d + 1, h => by
    rw [← Nat.add_assoc, oK_succ, List.take_append_of_le_length (by rw [oK_len]; omega), oK_pre k i n j d h]
/-- So many bytes of an expansion. -/
def eK (k i : List UInt8) (n : Nat) : List UInt8 := (oK k i 255).take n
theorem eK_of (k i : List UInt8) (n j : Nat) (h : n ≤ 32 * j) (hj : j ≤ 255) : (oK k i j).take n = eK k i n := by
  unfold eK
  rw [show 255 = j + (255 - j) by omega, oK_pre k i n j _ h]
theorem eK_len (k i : List UInt8) (n : Nat) (h : n ≤ 8160) : (eK k i n).length = n := by
  unfold eK
  rw [List.length_take, oK_len]
  omega
theorem eK_pre (k i : List UInt8) (m n : Nat) (h : m ≤ n) : (eK k i n).take m = eK k i m := by
  unfold eK
  rw [List.take_take, Nat.min_eq_left h]
theorem mOf3_fc (k p q r : List UInt8) (hk : k.length ≤ 10000000) (hb : p.length + (q.length + r.length) ≤ 10000000000) : FC Tryd.prog GS 36 [.rob k, .rof 1 [p, q, r].length (fun i _ => .rob ([p, q, r].getD i []))] (.aggb (hm k (p ++ (q ++ r)))) none := by
  have h := mOf_fc k [p, q, r] hk (by simp) (by simpa using hb)
  rw [show [p, q, r].flatten = p ++ (q ++ r) by simp] at h
  exact h
attribute [local irreducible] tK oK eK

theorem b8_succ (j : Nat) : b8 ((j : Int) + 1) = UInt8.ofNat (j + 1) := by
  unfold b8
  rw [show (((j : Int) + 1) % 256).toNat = (j + 1) % 256 by omega]
  apply UInt8.toNat_inj.1
  simp
theorem u8_succ (j : Nat) : UInt8.ofNat (j + 1) + 1 = UInt8.ofNat (j + 1 + 1) := by
  rw [UInt8.ofNat_add (j + 1) 1]
  rfl

theorem mExpand_fc (k i : List UInt8) (n : Nat) (hk : k.length = 32) (hi : i.length ≤ 1000000) (hn : n ≤ 8160) : FC Tryd.prog GS 44 [.aggb k, .rob i, .int .i64 n] (.tup [.ownb (eK k i n), .int .i64 0]) none := by
  refine fc_in (ts := [6, 7]) ti_eq gpS Tryd.func44 rfl rfl (by decide) rfl (by simp [D.ad1, D.fr0, D.pf1, D.pf0, D.pf]) trivial (by simp only [inSt, adoptL, adopt1, numb, St.lay1, St.nxt, St.lay, St.sh, St.ob, look, Z, stC_len, sha_take, sha_length, drop_rep, List.take_zero, hm_length, hm_take, Int.cast_ofNat_Int, UInt8.reduceToNat, UInt32.reduceToNat, Nat.reduceAdd, Nat.reduceMul, Nat.reduceSub, Nat.reduceLeDiff, Int.reduceToNat, Int.reducePow, Nat.reducePow]; rfl) (fun C hC => ?_)
  have hE : Env C Ti GS 38 := hC.env
  have hm : C.P.follows .mixedOrders = true := by rw [hC.p]; kernel_rfl
  have hP := hC.p
  have hrc := hC.recv rfl
  have hrn := hC.rn
  clear hC
  wc9a1a_0
  refine VC.weak ?_ (kniln 9 970 1 (c := .bytes []) rfl rfl rfl)
  refine VC.weak ?_ (kgiveb 9 970 rfl rfl rfl rfl (rfl))
  refine VC.weak ?_ (kniln 8 34 1 (c := .bytes []) rfl rfl rfl)
  rw [hk]
  refine vl (fun j : Nat => ⟨[(1, .rob i), (2, .int .i64 n), (3, .ptr 3 1 0), (8, .sl 34 (1 + j) 0 (oK k i j).length), (9, .rob (tK k i j)), (10, .u8 (UInt8.ofNat (j + 1)))], [(3, ⟨⟨1, 1, 32⟩, some (.bytes k)⟩), (34, ⟨⟨1 + j, 1, (oK k i j).length⟩, some (.bytes (oK k i j))⟩)], []⟩) (fun j => j ≤ 255 ∧ 32 * j ≤ n + 31) (fun j => 256 - j) 0 ?_ ⟨Nat.zero_le _, Nat.zero_le _⟩ (fun j hj => ?_)
  · rw [oK_zero, tK_zero]
    wc9a1a_1
  · have hol := oK_len k i j
    have htl := tK_le k i j
    wc9a1a_0
    · first | refine vo rfl ?_ | refine voD rfl hm ?_
      wc9a1a_2
      refine rc hE hP (mOf3_fc k (tK k i j) i [UInt8.ofNat (j + 1)] (by omega) (by simp; omega)) (fnOk_of Tryd.func36 rfl rfl) (by (repeat' (first | apply mcf rfl | exact .tnil | exact mat_eq rfl rfl | apply mat_i | apply mat_bl | apply mat_u8 | apply mat_u32 | apply mat_st | apply mat_ab | apply mat_rbe | apply mat_nrb | apply mat_nob | exact mat_nos rfl rfl | exact mat_rf0 rfl | exact mat_trob | (apply mat_rf rfl rfl rfl) | refine mat_slf (e := 1) rfl rfl rfl rfl ?_ ?_ ?_ (by first | exact fr0_rob _ | exact fr0_str _ | exact fr0_str _) | (apply mat_sls rfl rfl rfl rfl rfl rfl) | exact mat_pf rfl rfl rfl rfl rfl | (apply mat_s0 rfl rfl rfl; (· first | rfl | (simp; done) | (simp; omega) | omega)) | (apply mat_r0 rfl rfl rfl; (· first | rfl | (simp; done) | (simp; omega) | omega)) | apply mat_sl rfl rfl rfl | apply mat_rb rfl rfl rfl | apply mat_p rfl rfl rfl rfl | apply mc)) <;> (first | rfl | assumption | (simp only [Z, stC_len, sha_take, sha_length, drop_rep, List.take_zero, hm_length, hm_take, Int.cast_ofNat_Int, UInt8.reduceToNat, UInt32.reduceToNat, Nat.reduceAdd, Nat.reduceMul, Nat.reduceSub, Nat.reduceLeDiff, Int.reduceToNat, Int.reducePow, Nat.reducePow]; done) | (simp; done) | omega | (simp [List.take_of_length_le]; done) | skip)) (by decide) (by decide) (by first | exact .inl rfl | exact .inr ⟨rfl, fun _ h => by cases h <;> rfl⟩) (by first | rfl | simp [D.ad, D.ad1, D.fr0, D.pf, D.pf1, D.pf0]) (by first | exact rfl | exact ⟨900, 1, _, rfl, rfl, rfl, rfl, rfl, by simp, rfl⟩ | exact ⟨_, _, _, rfl, rfl, rfl, rfl, rfl, by simp, rfl⟩) rfl rfl (by first | (simp only [adO, adLO, ad1O, outO, Z, stC_len, sha_take, sha_length, drop_rep, List.take_zero, hm_length, hm_take, Int.cast_ofNat_Int, UInt8.reduceToNat, UInt32.reduceToNat, Nat.reduceAdd, Nat.reduceMul, Nat.reduceSub, Nat.reduceLeDiff, Int.reduceToNat, Int.reducePow, Nat.reducePow]; done) | (simp only [List.cons_append, List.nil_append, List.append_nil, adO, adLO, ad1O, outO, Option.getD_some, St.ob, look, Nat.reduceEqDiff, reduceIte, Z, stC_len, sha_take, sha_length, drop_rep, List.take_zero, hm_length, hm_take, Int.cast_ofNat_Int, UInt8.reduceToNat, UInt32.reduceToNat, Nat.reduceAdd, Nat.reduceMul, Nat.reduceSub, Nat.reduceLeDiff, Int.reduceToNat, Int.reducePow, Nat.reducePow]; rfl) | rfl) (by first | (simp only [adO, adLO, ad1O, outO, Z, stC_len, sha_take, sha_length, drop_rep, List.take_zero, hm_length, hm_take, Int.cast_ofNat_Int, UInt8.reduceToNat, UInt32.reduceToNat, Nat.reduceAdd, Nat.reduceMul, Nat.reduceSub, Nat.reduceLeDiff, Int.reduceToNat, Int.reducePow, Nat.reducePow]; done) | (simp only [List.cons_append, List.nil_append, List.append_nil, adO, adLO, ad1O, outO, Option.getD_some, St.ob, look, Nat.reduceEqDiff, reduceIte, Z, stC_len, sha_take, sha_length, drop_rep, List.take_zero, hm_length, hm_take, Int.cast_ofNat_Int, UInt8.reduceToNat, UInt32.reduceToNat, Nat.reduceAdd, Nat.reduceMul, Nat.reduceSub, Nat.reduceLeDiff, Int.reduceToNat, Int.reducePow, Nat.reducePow]; rfl) | rfl) (by (try simp only [Z, stC_len, sha_take, sha_length, drop_rep, List.take_zero, hm_length, hm_take, Int.cast_ofNat_Int, UInt8.reduceToNat, UInt32.reduceToNat, Nat.reduceAdd, Nat.reduceMul, Nat.reduceSub, Nat.reduceLeDiff, Int.reduceToNat, Int.reducePow, Nat.reducePow]) <;> rfl) (by first | (simp only [adO, adLO, ad1O, outO, Z, stC_len, sha_take, sha_length, drop_rep, List.take_zero, hm_length, hm_take, Int.cast_ofNat_Int, UInt8.reduceToNat, UInt32.reduceToNat, Nat.reduceAdd, Nat.reduceMul, Nat.reduceSub, Nat.reduceLeDiff, Int.reduceToNat, Int.reducePow, Nat.reducePow]; done) | (simp only [List.cons_append, List.nil_append, List.append_nil, adO, adLO, ad1O, outO, Option.getD_some, St.ob, look, Nat.reduceEqDiff, reduceIte, Z, stC_len, sha_take, sha_length, drop_rep, List.take_zero, hm_length, hm_take, Int.cast_ofNat_Int, UInt8.reduceToNat, UInt32.reduceToNat, Nat.reduceAdd, Nat.reduceMul, Nat.reduceSub, Nat.reduceLeDiff, Int.reduceToNat, Int.reducePow, Nat.reducePow]; rfl) | rfl) (by first | (simp only [adO, adLO, ad1O, outO, Z, stC_len, sha_take, sha_length, drop_rep, List.take_zero, hm_length, hm_take, Int.cast_ofNat_Int, UInt8.reduceToNat, UInt32.reduceToNat, Nat.reduceAdd, Nat.reduceMul, Nat.reduceSub, Nat.reduceLeDiff, Int.reduceToNat, Int.reducePow, Nat.reducePow]; done) | (simp only [List.cons_append, List.nil_append, List.append_nil, adO, adLO, ad1O, outO, Option.getD_some, St.ob, look, Nat.reduceEqDiff, reduceIte, Z, stC_len, sha_take, sha_length, drop_rep, List.take_zero, hm_length, hm_take, Int.cast_ofNat_Int, UInt8.reduceToNat, UInt32.reduceToNat, Nat.reduceAdd, Nat.reduceMul, Nat.reduceSub, Nat.reduceLeDiff, Int.reduceToNat, Int.reducePow, Nat.reducePow]; rfl) | rfl) ?_
      wc9a1a_2
      first | refine rz ?_ | (refine rzD ?_ ?_; (· kernel_rfl))
      rw [← tK_succ]
      have htl2 : (tK k i (j + 1)).length = 32 := by rw [tK_succ, hm_length]
      wc9a1a_3
      refine lq_n (j + 1) ?_ ⟨by omega, by omega⟩ (by omega)
      refine Wk.trans (kgiveb 9 11 rfl rfl rfl rfl (by rw [List.drop_zero, List.take_of_length_le (by omega)])) ?_
      rw [oK_succ, u8_succ, List.length_append, htl2, List.take_of_length_le (show (tK k i (j + 1)).length ≤ 32 by omega)]
      wc9a1a_1
    · have he := eK_of k i n j (by omega) hj.1
      rw [← he]
      wc9a1a_4

theorem rExpand_fc (k i : List UInt8) (n : Nat) (hk : k.length = 32) (hi : i.length ≤ 1000000) (hn : n ≤ 8160) : FC Tryd.prog GS 45 [.str k, .str i, .int .i64 n] (.tup [.str (eK k i n), .int .i64 0]) none := by
  refine fc_in (ts := [6, 7]) ti_eq gpS Tryd.func45 rfl rfl (by decide) rfl (by simp [D.ad1, D.fr0, D.pf1, D.pf0, D.pf]) trivial (by simp only [inSt, adoptL, adopt1, numb, St.lay1, St.nxt, St.lay, St.sh, St.ob, look, Z, stC_len, sha_take, sha_length, drop_rep, List.take_zero, hm_length, hm_take, Int.cast_ofNat_Int, UInt8.reduceToNat, UInt32.reduceToNat, Nat.reduceAdd, Nat.reduceMul, Nat.reduceSub, Nat.reduceLeDiff, Int.reduceToNat, Int.reducePow, Nat.reducePow]; rfl) (fun C hC => ?_)
  have hE : Env C Ti GS 39 := hC.env
  have hm : C.P.follows .mixedOrders = true := by rw [hC.p]; kernel_rfl
  have hP := hC.p
  have hrc := hC.recv rfl
  have hrn := hC.rn
  clear hC
  wc9a1a_0
  refine vl (fun j : Nat => ⟨[(0, .str k), (1, .str i), (2, .int .i64 n), (8, .str (oK k i j)), (9, .str (tK k i j)), (10, .int .i64 ((j : Int) + 1))], [], []⟩) (fun j => j ≤ 255 ∧ 32 * j ≤ n + 31) (fun j => 256 - j) 0 ?_ ⟨Nat.zero_le _, Nat.zero_le _⟩ (fun j hj => ?_)
  · rw [oK_zero, tK_zero]
    wc9a1a_1
  · have hol := oK_len k i j
    have htl := tK_le k i j
    wc9a1a_0
    · first | refine vo rfl ?_ | refine voD rfl hm ?_
      wc9a1a_2
      refine rc hE hP (rmOf_fc k (tK k i j ++ i ++ [b8 ((j : Int) + 1)]) (by omega) (by simp; omega)) (fnOk_of Tryd.func39 rfl rfl) (by (repeat' (first | apply mcf rfl | exact .tnil | exact mat_eq rfl rfl | apply mat_i | apply mat_bl | apply mat_u8 | apply mat_u32 | apply mat_st | apply mat_ab | apply mat_rbe | apply mat_nrb | apply mat_nob | exact mat_nos rfl rfl | exact mat_rf0 rfl | exact mat_trob | (apply mat_rf rfl rfl rfl) | refine mat_slf (e := 1) rfl rfl rfl rfl ?_ ?_ ?_ (by first | exact fr0_rob _ | exact fr0_str _ | exact fr0_str _) | (apply mat_sls rfl rfl rfl rfl rfl rfl) | exact mat_pf rfl rfl rfl rfl rfl | (apply mat_s0 rfl rfl rfl; (· first | rfl | (simp; done) | (simp; omega) | omega)) | (apply mat_r0 rfl rfl rfl; (· first | rfl | (simp; done) | (simp; omega) | omega)) | apply mat_sl rfl rfl rfl | apply mat_rb rfl rfl rfl | apply mat_p rfl rfl rfl rfl | apply mc)) <;> (first | rfl | assumption | (simp only [Z, stC_len, sha_take, sha_length, drop_rep, List.take_zero, hm_length, hm_take, Int.cast_ofNat_Int, UInt8.reduceToNat, UInt32.reduceToNat, Nat.reduceAdd, Nat.reduceMul, Nat.reduceSub, Nat.reduceLeDiff, Int.reduceToNat, Int.reducePow, Nat.reducePow]; done) | (simp; done) | omega | (simp [List.take_of_length_le]; done) | skip)) (by decide) (by decide) (by first | exact .inl rfl | exact .inr ⟨rfl, fun _ h => by cases h <;> rfl⟩) (by first | rfl | simp [D.ad, D.ad1, D.fr0, D.pf, D.pf1, D.pf0]) (by first | exact rfl | exact ⟨900, 1, _, rfl, rfl, rfl, rfl, rfl, by simp, rfl⟩ | exact ⟨_, _, _, rfl, rfl, rfl, rfl, rfl, by simp, rfl⟩) rfl rfl (by first | (simp only [adO, adLO, ad1O, outO, Z, stC_len, sha_take, sha_length, drop_rep, List.take_zero, hm_length, hm_take, Int.cast_ofNat_Int, UInt8.reduceToNat, UInt32.reduceToNat, Nat.reduceAdd, Nat.reduceMul, Nat.reduceSub, Nat.reduceLeDiff, Int.reduceToNat, Int.reducePow, Nat.reducePow]; done) | (simp only [List.cons_append, List.nil_append, List.append_nil, adO, adLO, ad1O, outO, Option.getD_some, St.ob, look, Nat.reduceEqDiff, reduceIte, Z, stC_len, sha_take, sha_length, drop_rep, List.take_zero, hm_length, hm_take, Int.cast_ofNat_Int, UInt8.reduceToNat, UInt32.reduceToNat, Nat.reduceAdd, Nat.reduceMul, Nat.reduceSub, Nat.reduceLeDiff, Int.reduceToNat, Int.reducePow, Nat.reducePow]; rfl) | rfl) (by first | (simp only [adO, adLO, ad1O, outO, Z, stC_len, sha_take, sha_length, drop_rep, List.take_zero, hm_length, hm_take, Int.cast_ofNat_Int, UInt8.reduceToNat, UInt32.reduceToNat, Nat.reduceAdd, Nat.reduceMul, Nat.reduceSub, Nat.reduceLeDiff, Int.reduceToNat, Int.reducePow, Nat.reducePow]; done) | (simp only [List.cons_append, List.nil_append, List.append_nil, adO, adLO, ad1O, outO, Option.getD_some, St.ob, look, Nat.reduceEqDiff, reduceIte, Z, stC_len, sha_take, sha_length, drop_rep, List.take_zero, hm_length, hm_take, Int.cast_ofNat_Int, UInt8.reduceToNat, UInt32.reduceToNat, Nat.reduceAdd, Nat.reduceMul, Nat.reduceSub, Nat.reduceLeDiff, Int.reduceToNat, Int.reducePow, Nat.reducePow]; rfl) | rfl) (by (try simp only [Z, stC_len, sha_take, sha_length, drop_rep, List.take_zero, hm_length, hm_take, Int.cast_ofNat_Int, UInt8.reduceToNat, UInt32.reduceToNat, Nat.reduceAdd, Nat.reduceMul, Nat.reduceSub, Nat.reduceLeDiff, Int.reduceToNat, Int.reducePow, Nat.reducePow]) <;> rfl) (by first | (simp only [adO, adLO, ad1O, outO, Z, stC_len, sha_take, sha_length, drop_rep, List.take_zero, hm_length, hm_take, Int.cast_ofNat_Int, UInt8.reduceToNat, UInt32.reduceToNat, Nat.reduceAdd, Nat.reduceMul, Nat.reduceSub, Nat.reduceLeDiff, Int.reduceToNat, Int.reducePow, Nat.reducePow]; done) | (simp only [List.cons_append, List.nil_append, List.append_nil, adO, adLO, ad1O, outO, Option.getD_some, St.ob, look, Nat.reduceEqDiff, reduceIte, Z, stC_len, sha_take, sha_length, drop_rep, List.take_zero, hm_length, hm_take, Int.cast_ofNat_Int, UInt8.reduceToNat, UInt32.reduceToNat, Nat.reduceAdd, Nat.reduceMul, Nat.reduceSub, Nat.reduceLeDiff, Int.reduceToNat, Int.reducePow, Nat.reducePow]; rfl) | rfl) (by first | (simp only [adO, adLO, ad1O, outO, Z, stC_len, sha_take, sha_length, drop_rep, List.take_zero, hm_length, hm_take, Int.cast_ofNat_Int, UInt8.reduceToNat, UInt32.reduceToNat, Nat.reduceAdd, Nat.reduceMul, Nat.reduceSub, Nat.reduceLeDiff, Int.reduceToNat, Int.reducePow, Nat.reducePow]; done) | (simp only [List.cons_append, List.nil_append, List.append_nil, adO, adLO, ad1O, outO, Option.getD_some, St.ob, look, Nat.reduceEqDiff, reduceIte, Z, stC_len, sha_take, sha_length, drop_rep, List.take_zero, hm_length, hm_take, Int.cast_ofNat_Int, UInt8.reduceToNat, UInt32.reduceToNat, Nat.reduceAdd, Nat.reduceMul, Nat.reduceSub, Nat.reduceLeDiff, Int.reduceToNat, Int.reducePow, Nat.reducePow]; rfl) | rfl) ?_
      wc9a1a_2
      first | refine rz ?_ | (refine rzD ?_ ?_; (· kernel_rfl))
      rw [List.append_assoc, b8_succ, ← tK_succ]
      have htl2 : (tK k i (j + 1)).length = 32 := by rw [tK_succ, hm_length]
      wc9a1a_3
      refine lq_n (j + 1) ?_ ⟨by omega, by omega⟩ (by omega)
      rw [oK_succ]
      wc9a1a_1
    · have he := eK_of k i n j (by omega) hj.1
      wc9a1a_0
      rw [he]
      wc9a1a_4
end Go.Proofs.YtkokcibnkcmcjaaDoor
