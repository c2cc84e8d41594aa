/- What the claim leans on, text Zp: Sh17. No condition beyond what each lemma states. -/
import Derived.Test.YtkokcibnkcmcjaaDoorZt
import Derived.Test.YtkokcibnkcmcjaaDoorZo

/- Expand where it errs; rows of 32 bytes. Printed by wp.py. -/
namespace Go.Proofs.YtkokcibnkcmcjaaDoor
open Go Go.RowKit
set_option linter.unusedVariables false
set_option linter.unusedSimpArgs false
set_option maxRecDepth 100000
set_option maxHeartbeats 4000000
set_option hygiene false in
local macro "w1361a_0" : tactic => `(tactic| (repeat' (first | refine vs ?_ | ((first | apply vr rfl hE 200 rfl | (apply vrD rfl hE hm 200 rfl; (· kernel_rfl))); (· (try simp only [Z, stC_len, sha_take, sha_length, drop_rep, List.take_zero, hm_length, hm_take, p32_take, p32_len, Int.cast_ofNat_Int, UInt8.reduceToNat, UInt32.reduceToNat, Nat.reduceAdd, Nat.reduceMul, Nat.reduceSub, Nat.reduceLeDiff, Int.reduceToNat, Int.reducePow, Nat.reducePow]) <;> rfl); (· (repeat' (first | exact trivial | apply And.intro | refine List.forall_mem_cons.2 ?_ | exact List.forall_mem_nil _ | (intro hgd; try exact absurd hgd (by decide)))) <;> first | exact rfl | omega | (simp only [Z, stC_len, sha_take, sha_length, drop_rep, List.take_zero, hm_length, hm_take, p32_take, p32_len, Int.cast_ofNat_Int, UInt8.reduceToNat, UInt32.reduceToNat, Nat.reduceAdd, Nat.reduceMul, Nat.reduceSub, Nat.reduceLeDiff, Int.reduceToNat, Int.reducePow, Nat.reducePow]; first | done | omega) | exact Nat.le_of_ble_eq_true rfl | assumption | (simp only [Z, stC_len, sha_take, sha_length, drop_rep, List.take_zero, hm_length, hm_take, p32_take, p32_len, Int.cast_ofNat_Int, UInt8.reduceToNat, UInt32.reduceToNat, Nat.reduceAdd, Nat.reduceMul, Nat.reduceSub, Nat.reduceLeDiff, Int.reduceToNat, Int.reducePow, Nat.reducePow, BN] at *; first | done | omega) | (simp_all [Z, BN]; done))) | refine sq_n ?_ | refine vc_skip ?_ | refine vc_exit ?_ | refine vc_ret ?_ | refine sq_r ?_ | refine sq_e ?_ | refine in_n ?_ | refine in_e ?_ | refine in_r ?_ | refine in_x rfl ?_ | refine vb ?_ | refine lq_r ?_ | refine lq_e ?_ | refine nq_r ?_ | refine nq_e ?_ | refine nq_n ?_ | refine vn_s ?_ | refine jq_r ?_ | refine jq_e ?_ | refine vT hE rfl rfl ?_ | refine vF hE rfl rfl ?_ | (refine vc hE rfl (fun hc => ?_) (fun hc => ?_) <;> (try simp only [BN, V1, V2] at hc) <;> (try (exfalso; omega))))))
set_option hygiene false in
local macro "w1361a_1" : tactic => `(tactic| ((first | refine fn_r ?_ | refine fn_n ?_); apply fin0 rfl; (· (first | exact Mat.tnil | apply mat1 rfl | apply mat2 rfl rfl | apply mat3 rfl rfl rfl) <;> (repeat' (first | exact .tnil | exact mat_eq rfl rfl | apply mat_i | apply mat_bl | apply mat_u8 | apply mat_u32 | apply mat_st | apply mat_ab | apply mat_rbe | apply mat_nrb | apply mat_nob | exact mat_nos rfl rfl | exact mat_rf0 rfl | exact mat_trob | (apply mat_rf rfl rfl rfl) | refine mat_slf (e := 1) rfl rfl rfl rfl ?_ ?_ ?_ (by first | exact fr0_rob _ | exact fr0_str _ | exact fr0_str _) | (apply mat_sls rfl rfl rfl rfl rfl rfl) | exact mat_pf rfl rfl rfl rfl rfl | (apply mat_s0 rfl rfl rfl; (· first | rfl | (simp; done) | (simp; omega) | omega)) | (apply mat_r0 rfl rfl rfl; (· first | rfl | (simp; done) | (simp; omega) | omega)) | apply mat_sl rfl rfl rfl | apply mat_rb rfl rfl rfl | apply mat_p rfl rfl rfl rfl | apply mc)) <;> (first | rfl | assumption | (simp only [Z, stC_len, sha_take, sha_length, drop_rep, List.take_zero, hm_length, hm_take, p32_take, p32_len, Int.cast_ofNat_Int, UInt8.reduceToNat, UInt32.reduceToNat, Nat.reduceAdd, Nat.reduceMul, Nat.reduceSub, Nat.reduceLeDiff, Int.reduceToNat, Int.reducePow, Nat.reducePow]; done) | (simp; done) | omega | (simp [List.take_of_length_le]; done) | skip)); (· decide); (· decide)))
attribute [local irreducible] inR VC RG VCn sq inS lq nq jq Wk
attribute [local irreducible] sha stH stW abs8 hm eK
attribute [local simp] sha_length stC_len hm_length

/-- A row of 32 bytes. -/
def p32 (k : List UInt8) : List UInt8 := k.take 32 ++ List.replicate (32 - k.length) 0
theorem p32_len (k : List UInt8) : (p32 k).length = 32 := by simp [p32]; omega
theorem p32_take (k : List UInt8) : List.take 32 (p32 k) = p32 k := List.take_of_length_le (by rw [p32_len]; decide)
theorem p32_of (k : List UInt8) (h : k.length = 32) : k = p32 k := by
  unfold p32
  rw [List.take_of_length_le (by omega), h]
  simp
attribute [local irreducible] p32
attribute [local simp] p32_len

theorem mExpandBad_fc (k i : List UInt8) (n : Int) (hn : n < 0 ∨ 8160 < n) : FC Tryd.prog GS 44 [.aggb k, .rob i, .int .i64 n] (.tup [.ownb [], .int .i64 1]) none := by
  refine fc_in (ts := [6, 7]) ti_eq gpS Tryd.func44 rfl rfl (by decide) rfl (by simp [D.ad1, D.fr0, D.pf1, D.pf0, D.pf]) trivial (by simp only [inSt, adoptL, adopt1, numb, St.lay1, St.nxt, St.lay, St.sh, St.ob, look, Z, stC_len, sha_take, sha_length, drop_rep, List.take_zero, hm_length, hm_take, p32_take, p32_len, Int.cast_ofNat_Int, UInt8.reduceToNat, UInt32.reduceToNat, Nat.reduceAdd, Nat.reduceMul, Nat.reduceSub, Nat.reduceLeDiff, Int.reduceToNat, Int.reducePow, Nat.reducePow]; rfl) (fun C hC => ?_)
  have hE : Env C Ti GS 38 := hC.env
  have hm : C.P.follows .mixedOrders = true := by rw [hC.p]; kernel_rfl
  have hP := hC.p
  have hrc := hC.recv rfl
  have hrn := hC.rn
  clear hC
  w1361a_0
  w1361a_1

theorem rExpandBad_fc (k i : List UInt8) (n : Int) (hn : n < 0 ∨ 8160 < n) : FC Tryd.prog GS 45 [.str k, .str i, .int .i64 n] (.tup [.str [], .int .i64 1]) none := by
  refine fc_in (ts := [6, 7]) ti_eq gpS Tryd.func45 rfl rfl (by decide) rfl (by simp [D.ad1, D.fr0, D.pf1, D.pf0, D.pf]) trivial (by simp only [inSt, adoptL, adopt1, numb, St.lay1, St.nxt, St.lay, St.sh, St.ob, look, Z, stC_len, sha_take, sha_length, drop_rep, List.take_zero, hm_length, hm_take, p32_take, p32_len, Int.cast_ofNat_Int, UInt8.reduceToNat, UInt32.reduceToNat, Nat.reduceAdd, Nat.reduceMul, Nat.reduceSub, Nat.reduceLeDiff, Int.reduceToNat, Int.reducePow, Nat.reducePow]; rfl) (fun C hC => ?_)
  have hE : Env C Ti GS 39 := hC.env
  have hm : C.P.follows .mixedOrders = true := by rw [hC.p]; kernel_rfl
  have hP := hC.p
  have hrc := hC.recv rfl
  have hrn := hC.rn
  clear hC
  w1361a_0
  w1361a_1

end Go.Proofs.YtkokcibnkcmcjaaDoor
