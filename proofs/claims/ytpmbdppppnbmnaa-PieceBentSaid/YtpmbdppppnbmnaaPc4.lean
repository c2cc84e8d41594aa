/- The functions of the piece seat: Split. Printed by wp.py. -/
import Derived.Test.YtpmbdppppnbmnaaPc2
import Derived.Test.YtpmbdppppnbmnaaChunk
namespace Go.Proofs.Ytpmbdppppnbmnaa
open Go Go.RowKit
set_option linter.unusedVariables false
set_option linter.unusedSimpArgs false
set_option maxRecDepth 100000
set_option maxHeartbeats 4000000
attribute [local irreducible] inR VC RG VCn sq inS lq nq jq Wk rq

/-- piece.Split. -/
def n4 (n : Nat) : List UInt8 := [b8 ((n : Int) / 16777216), b8 ((n : Int) / 65536), b8 ((n : Int) / 256), b8 (n : Int)]
def hdL (f : List UInt8) (s : Nat) : List UInt8 := 192 :: (n4 f.length ++ f.take (s - 5))
def pk (f : List UInt8) (s k : Nat) : List UInt8 := 64 :: pc (f.drop (s - 5)) (s - 1) k
def rawL (f : List UInt8) (s : Nat) (ks : List Nat) : List (List UInt8) := hdL f s :: ks.map (pk f s)
/-- All but the last one, and that. -/
def rawI (f : List UInt8) (s : Nat) (ks : List Nat) : List (List UInt8) := (rawL f s ks).dropLast
def rawE (f : List UInt8) (s : Nat) (ks : List Nat) : List UInt8 := (rawL f s ks).getLastD []
theorem raw_ie (f : List UInt8) (s : Nat) (ks : List Nat) : rawI f s ks ++ [rawE f s ks] = rawL f s ks := by
  unfold rawI rawE
  have h : rawL f s ks ≠ [] := by unfold rawL; simp
  rw [List.getLastD_eq_getLast?, List.getLast?_eq_some_getLast h]
  exact List.dropLast_concat_getLast h
theorem rawI_len (f : List UInt8) (s : Nat) (ks : List Nat) : (rawI f s ks).length = ks.length := by simp [rawI, rawL]
theorem rawI_s (f : List UInt8) (s : Nat) (ks : List Nat) (k : Nat) : rawI f s (ks ++ [k]) = rawL f s ks ∧ rawE f s (ks ++ [k]) = pk f s k := by
  have h : rawL f s (ks ++ [k]) = rawL f s ks ++ [pk f s k] := by simp [rawL]
  unfold rawI rawE
  rw [h]
  simp
theorem rawE_pos (f : List UInt8) (s : Nat) (ks : List Nat) : 0 < (rawE f s ks).length := by
  rcases List.eq_nil_or_concat ks with rfl | ⟨l, k, rfl⟩
  · simp [rawE, rawL, hdL]
  · rw [List.concat_eq_append, (rawI_s f s l k).2]
    simp [pk]
def splitL (f : List UInt8) (s : Nat) : List (List UInt8) := if f.length ≤ s - 1 then [0 :: f] else rawI f s (List.range (pcN (f.length - (s - 5)) (s - 1))) ++ [(rawE f s (List.range (pcN (f.length - (s - 5)) (s - 1)))).set 0 0]
def splitE (f : List UInt8) (s : Int) : Int := if s < 16 ∨ 4000 < s then 1 else if 32768 < (f.length : Int) then 4 else 0
def splitP (f : List UInt8) (s : Int) : List (List UInt8) := if splitE f s = 0 then splitL f s.toNat else []

theorem Split_fc (f : List UInt8) (s : Int) : FC Try.prog G1 9 [.rob f, .int .i64 s] (.tup [.owns 1 (splitP f s).length ((splitP f s).map D.rob), .int .i64 (splitE f s)]) none := by
  refine fc_in (ts := [4, 5]) ti_eq gp1 Try.func9 rfl rfl (by decide) rfl (by simp [D.ad1, D.fr0, D.pf1, D.pf0, D.pf]) trivial (by simp only [inSt, adoptL, adopt1, numb, St.lay1, St.nxt, St.lay, St.sh, St.ob, look, Z, Int.cast_ofNat_Int, UInt8.reduceToNat, UInt32.reduceToNat, Nat.reduceAdd, Nat.reduceMul, Nat.reduceSub, Nat.reduceLeDiff, Int.reduceToNat, Int.reducePow, Nat.reducePow]; rfl) (fun C hC => ?_)
  have hE : Env C Ti G1 72 := hC.env
  have hm : C.P.follows .mixedOrders = true := by rw [hC.p]; kernel_rfl
  have hP := hC.p
  have hrc := hC.recv rfl
  have hrn := hC.rn
  clear hC
  repeat' (first | refine vs ?_ | ((first | apply vr rfl hE 200 rfl | (apply vrD rfl hE hm 200 rfl; (· kernel_rfl))); (· (try simp only [Z, Int.cast_ofNat_Int, UInt8.reduceToNat, UInt32.reduceToNat, Nat.reduceAdd, Nat.reduceMul, Nat.reduceSub, Nat.reduceLeDiff, Int.reduceToNat, Int.reducePow, Nat.reducePow]) <;> rfl); (· (repeat' (first | exact trivial | apply And.intro | refine List.forall_mem_cons.2 ?_ | exact List.forall_mem_nil _ | intro hgd)) <;> first | rfl | assumption | omega | (simp only [Z, Int.cast_ofNat_Int, UInt8.reduceToNat, UInt32.reduceToNat, Nat.reduceAdd, Nat.reduceMul, Nat.reduceSub, Nat.reduceLeDiff, Int.reduceToNat, Int.reducePow, Nat.reducePow]; first | done | omega) | (simp only [Z, Int.cast_ofNat_Int, UInt8.reduceToNat, UInt32.reduceToNat, Nat.reduceAdd, Nat.reduceMul, Nat.reduceSub, Nat.reduceLeDiff, Int.reduceToNat, Int.reducePow, Nat.reducePow, BN] at *; first | done | omega) | (simp_all [Z, BN]; done))) | refine sq_n ?_ | refine vc_skip ?_ | refine vc_exit ?_ | refine vc_ret ?_ | refine sq_r ?_ | refine sq_e ?_ | refine in_n ?_ | refine in_e ?_ | refine in_r ?_ | refine in_x rfl ?_ | refine vb ?_ | refine lq_r ?_ | refine lq_e ?_ | refine nq_r ?_ | refine nq_e ?_ | refine jq_r ?_ | refine jq_e ?_ | refine vT hE rfl rfl ?_ | refine vF hE rfl rfl ?_ | (refine vc hE rfl (fun hc => ?_) (fun hc => ?_) <;> (try simp only [BN, V1, V2] at hc) <;> (try (exfalso; omega))))
  · rw [show splitP f s = [] by (simp only [splitP, splitE]; (repeat' split) <;> first | rfl | contradiction | omega | grind)]
    rw [show splitE f s = 1 by (simp only [splitE]; (repeat' split) <;> first | rfl | contradiction | omega | grind)]
    (first | refine fn_r ?_ | refine fn_n ?_); apply fin0 rfl; (· (first | apply mat1 rfl | apply mat2 rfl rfl | apply mat3 rfl rfl rfl) <;> (repeat' (first | exact .tnil | exact mat_eq rfl rfl | apply mat_i | apply mat_bl | apply mat_u8 | apply mat_u32 | apply mat_st | apply mat_ab | apply mat_rbe | apply mat_nrb | apply mat_nob | exact mat_nos rfl rfl | refine mat_slf (e := 1) rfl rfl rfl rfl ?_ ?_ ?_ (by first | exact fr0_rob _ | exact fr0_str _ | exact fr0_str _) | (apply mat_sls rfl rfl rfl rfl rfl rfl) | exact mat_pf rfl rfl rfl rfl rfl | (apply mat_s0 rfl rfl rfl; (· first | rfl | (simp; done) | (simp; omega) | omega)) | (apply mat_r0 rfl rfl rfl; (· first | rfl | (simp; done) | (simp; omega) | omega)) | apply mat_sl rfl rfl rfl | apply mat_rb rfl rfl rfl | apply mat_p rfl rfl rfl rfl | apply mc)) <;> (first | rfl | assumption | (simp only [Z, Int.cast_ofNat_Int, UInt8.reduceToNat, UInt32.reduceToNat, Nat.reduceAdd, Nat.reduceMul, Nat.reduceSub, Nat.reduceLeDiff, Int.reduceToNat, Int.reducePow, Nat.reducePow]; done) | (simp; done) | omega | (simp [List.take_of_length_le]; done) | skip)); (· decide); (· decide)
  · rw [show splitP f s = [] by (simp only [splitP, splitE]; (repeat' split) <;> first | rfl | contradiction | omega | grind)]
    rw [show splitE f s = 4 by (simp only [splitE]; (repeat' split) <;> first | rfl | contradiction | omega | grind)]
    (first | refine fn_r ?_ | refine fn_n ?_); apply fin0 rfl; (· (first | apply mat1 rfl | apply mat2 rfl rfl | apply mat3 rfl rfl rfl) <;> (repeat' (first | exact .tnil | exact mat_eq rfl rfl | apply mat_i | apply mat_bl | apply mat_u8 | apply mat_u32 | apply mat_st | apply mat_ab | apply mat_rbe | apply mat_nrb | apply mat_nob | exact mat_nos rfl rfl | refine mat_slf (e := 1) rfl rfl rfl rfl ?_ ?_ ?_ (by first | exact fr0_rob _ | exact fr0_str _ | exact fr0_str _) | (apply mat_sls rfl rfl rfl rfl rfl rfl) | exact mat_pf rfl rfl rfl rfl rfl | (apply mat_s0 rfl rfl rfl; (· first | rfl | (simp; done) | (simp; omega) | omega)) | (apply mat_r0 rfl rfl rfl; (· first | rfl | (simp; done) | (simp; omega) | omega)) | apply mat_sl rfl rfl rfl | apply mat_rb rfl rfl rfl | apply mat_p rfl rfl rfl rfl | apply mc)) <;> (first | rfl | assumption | (simp only [Z, Int.cast_ofNat_Int, UInt8.reduceToNat, UInt32.reduceToNat, Nat.reduceAdd, Nat.reduceMul, Nat.reduceSub, Nat.reduceLeDiff, Int.reduceToNat, Int.reducePow, Nat.reducePow]; done) | (simp; done) | omega | (simp [List.take_of_length_le]; done) | skip)); (· decide); (· decide)
  · have h0 : splitE f s = 0 := by simp only [splitE]; (repeat' split) <;> first | rfl | omega
    rw [h0]
    rw [show splitP f s = [0 :: f] by unfold splitP; rw [if_pos h0]; unfold splitL; rw [if_pos (by omega)]]
    simp only [List.map_cons, List.map_nil, List.length_cons, List.length_nil]
    (first | refine fn_r ?_ | refine fn_n ?_); apply fin0 rfl; (· (first | apply mat1 rfl | apply mat2 rfl rfl | apply mat3 rfl rfl rfl) <;> (repeat' (first | exact .tnil | exact mat_eq rfl rfl | apply mat_i | apply mat_bl | apply mat_u8 | apply mat_u32 | apply mat_st | apply mat_ab | apply mat_rbe | apply mat_nrb | apply mat_nob | exact mat_nos rfl rfl | refine mat_slf (e := 1) rfl rfl rfl rfl ?_ ?_ ?_ (by first | exact fr0_rob _ | exact fr0_str _ | exact fr0_str _) | (apply mat_sls rfl rfl rfl rfl rfl rfl) | exact mat_pf rfl rfl rfl rfl rfl | (apply mat_s0 rfl rfl rfl; (· first | rfl | (simp; done) | (simp; omega) | omega)) | (apply mat_r0 rfl rfl rfl; (· first | rfl | (simp; done) | (simp; omega) | omega)) | apply mat_sl rfl rfl rfl | apply mat_rb rfl rfl rfl | apply mat_p rfl rfl rfl rfl | apply mc)) <;> (first | rfl | assumption | (simp only [Z, Int.cast_ofNat_Int, UInt8.reduceToNat, UInt32.reduceToNat, Nat.reduceAdd, Nat.reduceMul, Nat.reduceSub, Nat.reduceLeDiff, Int.reduceToNat, Int.reducePow, Nat.reducePow]; done) | (simp; done) | omega | (simp [List.take_of_length_le]; done) | skip)); (· decide); (· decide)
  · have h0 : splitE f s = 0 := by simp only [splitE]; (repeat' split) <;> first | rfl | omega
    rw [h0]
    obtain ⟨n, rfl⟩ : ∃ n : Nat, s = ((n + 1 : Nat) : Int) := ⟨s.toNat - 1, by omega⟩
    have hs1 : ((n + 1 : Nat) : Int) - 1 = (n : Int) := by omega
    have hs2 : ((n : Nat) : Int) - 4 = ((n - 4 : Nat) : Int) := by omega
    have hmn : min (n - 4) f.length = n - 4 := by omega
    simp only [hs1, hs2, Int.toNat_natCast, hmn]
    first | refine vo rfl ?_ | refine voD rfl hm ?_
    apply rn hE 200 rfl; (· (try simp only [Z, Int.cast_ofNat_Int, UInt8.reduceToNat, UInt32.reduceToNat, Nat.reduceAdd, Nat.reduceMul, Nat.reduceSub, Nat.reduceLeDiff, Int.reduceToNat, Int.reducePow, Nat.reducePow]) <;> rfl); (· (repeat' (first | exact trivial | apply And.intro | refine List.forall_mem_cons.2 ?_ | exact List.forall_mem_nil _ | intro hgd)) <;> first | rfl | assumption | omega | (simp only [Z, Int.cast_ofNat_Int, UInt8.reduceToNat, UInt32.reduceToNat, Nat.reduceAdd, Nat.reduceMul, Nat.reduceSub, Nat.reduceLeDiff, Int.reduceToNat, Int.reducePow, Nat.reducePow]; first | done | omega) | (simp only [Z, Int.cast_ofNat_Int, UInt8.reduceToNat, UInt32.reduceToNat, Nat.reduceAdd, Nat.reduceMul, Nat.reduceSub, Nat.reduceLeDiff, Int.reduceToNat, Int.reducePow, Nat.reducePow, BN] at *; first | done | omega) | (simp_all [Z, BN]; done))
    refine rc hE hP (chunk_fc G1 (f.drop (n - 4)) n ?_) (fnOk_of Try.func18 rfl rfl) (by (repeat' (first | apply mcf rfl | exact .tnil | exact mat_eq rfl rfl | apply mat_i | apply mat_bl | apply mat_u8 | apply mat_u32 | apply mat_st | apply mat_ab | apply mat_rbe | apply mat_nrb | apply mat_nob | exact mat_nos rfl rfl | refine mat_slf (e := 1) rfl rfl rfl rfl ?_ ?_ ?_ (by first | exact fr0_rob _ | exact fr0_str _ | exact fr0_str _) | (apply mat_sls rfl rfl rfl rfl rfl rfl) | exact mat_pf rfl rfl rfl rfl rfl | (apply mat_s0 rfl rfl rfl; (· first | rfl | (simp; done) | (simp; omega) | omega)) | (apply mat_r0 rfl rfl rfl; (· first | rfl | (simp; done) | (simp; omega) | omega)) | apply mat_sl rfl rfl rfl | apply mat_rb rfl rfl rfl | apply mat_p rfl rfl rfl rfl | apply mc)) <;> (first | rfl | assumption | (simp only [Z, Int.cast_ofNat_Int, UInt8.reduceToNat, UInt32.reduceToNat, Nat.reduceAdd, Nat.reduceMul, Nat.reduceSub, Nat.reduceLeDiff, Int.reduceToNat, Int.reducePow, Nat.reducePow]; done) | (simp; done) | omega | (simp [List.take_of_length_le]; done) | skip)) (by decide) (by decide) (by first | exact .inl rfl | exact .inr ⟨rfl, fun _ h => by cases h⟩ | exact .inr ⟨rfl, fun cs h => by injection h with h; subst h; rfl⟩) rfl (by first | exact rfl | exact ⟨900, 1, _, rfl, rfl, rfl, rfl, rfl, by simp, rfl⟩) rfl rfl (by first | (simp only [adO, adLO, ad1O, outO, Z, Int.cast_ofNat_Int, UInt8.reduceToNat, UInt32.reduceToNat, Nat.reduceAdd, Nat.reduceMul, Nat.reduceSub, Nat.reduceLeDiff, Int.reduceToNat, Int.reducePow, Nat.reducePow]; done) | (simp only [adO, adLO, ad1O, outO, Z, Int.cast_ofNat_Int, UInt8.reduceToNat, UInt32.reduceToNat, Nat.reduceAdd, Nat.reduceMul, Nat.reduceSub, Nat.reduceLeDiff, Int.reduceToNat, Int.reducePow, Nat.reducePow]; rfl) | rfl) (by first | (simp only [adO, adLO, ad1O, outO, Z, Int.cast_ofNat_Int, UInt8.reduceToNat, UInt32.reduceToNat, Nat.reduceAdd, Nat.reduceMul, Nat.reduceSub, Nat.reduceLeDiff, Int.reduceToNat, Int.reducePow, Nat.reducePow]; done) | (simp only [adO, adLO, ad1O, outO, Z, Int.cast_ofNat_Int, UInt8.reduceToNat, UInt32.reduceToNat, Nat.reduceAdd, Nat.reduceMul, Nat.reduceSub, Nat.reduceLeDiff, Int.reduceToNat, Int.reducePow, Nat.reducePow]; rfl) | rfl) (by (try simp only [Z, Int.cast_ofNat_Int, UInt8.reduceToNat, UInt32.reduceToNat, Nat.reduceAdd, Nat.reduceMul, Nat.reduceSub, Nat.reduceLeDiff, Int.reduceToNat, Int.reducePow, Nat.reducePow]) <;> rfl) (by first | (simp only [adO, adLO, ad1O, outO, Z, Int.cast_ofNat_Int, UInt8.reduceToNat, UInt32.reduceToNat, Nat.reduceAdd, Nat.reduceMul, Nat.reduceSub, Nat.reduceLeDiff, Int.reduceToNat, Int.reducePow, Nat.reducePow]; done) | (simp only [adO, adLO, ad1O, outO, Z, Int.cast_ofNat_Int, UInt8.reduceToNat, UInt32.reduceToNat, Nat.reduceAdd, Nat.reduceMul, Nat.reduceSub, Nat.reduceLeDiff, Int.reduceToNat, Int.reducePow, Nat.reducePow]; rfl) | rfl) (by first | (simp only [adO, adLO, ad1O, outO, Z, Int.cast_ofNat_Int, UInt8.reduceToNat, UInt32.reduceToNat, Nat.reduceAdd, Nat.reduceMul, Nat.reduceSub, Nat.reduceLeDiff, Int.reduceToNat, Int.reducePow, Nat.reducePow]; done) | (simp only [adO, adLO, ad1O, outO, Z, Int.cast_ofNat_Int, UInt8.reduceToNat, UInt32.reduceToNat, Nat.reduceAdd, Nat.reduceMul, Nat.reduceSub, Nat.reduceLeDiff, Int.reduceToNat, Int.reducePow, Nat.reducePow]; rfl) | rfl) ?_
    · omega
    apply rn hE 200 rfl; (· (try simp only [Z, Int.cast_ofNat_Int, UInt8.reduceToNat, UInt32.reduceToNat, Nat.reduceAdd, Nat.reduceMul, Nat.reduceSub, Nat.reduceLeDiff, Int.reduceToNat, Int.reducePow, Nat.reducePow]) <;> rfl); (· (repeat' (first | exact trivial | apply And.intro | refine List.forall_mem_cons.2 ?_ | exact List.forall_mem_nil _ | intro hgd)) <;> first | rfl | assumption | omega | (simp only [Z, Int.cast_ofNat_Int, UInt8.reduceToNat, UInt32.reduceToNat, Nat.reduceAdd, Nat.reduceMul, Nat.reduceSub, Nat.reduceLeDiff, Int.reduceToNat, Int.reducePow, Nat.reducePow]; first | done | omega) | (simp only [Z, Int.cast_ofNat_Int, UInt8.reduceToNat, UInt32.reduceToNat, Nat.reduceAdd, Nat.reduceMul, Nat.reduceSub, Nat.reduceLeDiff, Int.reduceToNat, Int.reducePow, Nat.reducePow, BN] at *; first | done | omega) | (simp_all [Z, BN]; done))
    first | refine rz ?_ | (refine rzD ?_ ?_; (· kernel_rfl))
    repeat' (first | refine vs ?_ | ((first | apply vr rfl hE 200 rfl | (apply vrD rfl hE hm 200 rfl; (· kernel_rfl))); (· (try simp only [Z, Int.cast_ofNat_Int, UInt8.reduceToNat, UInt32.reduceToNat, Nat.reduceAdd, Nat.reduceMul, Nat.reduceSub, Nat.reduceLeDiff, Int.reduceToNat, Int.reducePow, Nat.reducePow]) <;> rfl); (· (repeat' (first | exact trivial | apply And.intro | refine List.forall_mem_cons.2 ?_ | exact List.forall_mem_nil _ | intro hgd)) <;> first | rfl | assumption | omega | (simp only [Z, Int.cast_ofNat_Int, UInt8.reduceToNat, UInt32.reduceToNat, Nat.reduceAdd, Nat.reduceMul, Nat.reduceSub, Nat.reduceLeDiff, Int.reduceToNat, Int.reducePow, Nat.reducePow]; first | done | omega) | (simp only [Z, Int.cast_ofNat_Int, UInt8.reduceToNat, UInt32.reduceToNat, Nat.reduceAdd, Nat.reduceMul, Nat.reduceSub, Nat.reduceLeDiff, Int.reduceToNat, Int.reducePow, Nat.reducePow, BN] at *; first | done | omega) | (simp_all [Z, BN]; done))) | refine sq_n ?_ | refine vc_skip ?_ | refine vc_exit ?_ | refine vc_ret ?_ | refine sq_r ?_ | refine sq_e ?_ | refine in_n ?_ | refine in_e ?_ | refine in_r ?_ | refine in_x rfl ?_ | refine vb ?_ | refine lq_r ?_ | refine lq_e ?_ | refine nq_r ?_ | refine nq_e ?_ | refine jq_r ?_ | refine jq_e ?_ | refine vT hE rfl rfl ?_ | refine vF hE rfl rfl ?_)
    refine vc_close 50 0 45 rfl rfl rfl rfl rfl rfl (by (try simp only [Z, Int.cast_ofNat_Int, UInt8.reduceToNat, UInt32.reduceToNat, Nat.reduceAdd, Nat.reduceMul, Nat.reduceSub, Nat.reduceLeDiff, Int.reduceToNat, Int.reducePow, Nat.reducePow]) <;> rfl) ?_
    refine vc_closes 8 0 50 rfl rfl rfl rfl rfl rfl rfl (by first | rfl | simp) (by first | rfl | exact fr0_ownb _ | exact fr0_cz _ _ | exact fr0_rob _ | exact fr0_str _ | simp [D.fr0]) (by (try simp only [Z, Int.cast_ofNat_Int, UInt8.reduceToNat, UInt32.reduceToNat, Nat.reduceAdd, Nat.reduceMul, Nat.reduceSub, Nat.reduceLeDiff, Int.reduceToNat, Int.reducePow, Nat.reducePow]) <;> rfl) ?_
    refine vf (dk := []) (sl := [(56, .chunk 23 (f.drop (n - 4)) n), (8, .ptr 8 1 0)]) hE hrn (by rw [hP]; exact chunk_ok) ?_ ?_ ?_ rfl rfl (fun ks => [(8, ⟨⟨1, 1, 1⟩, some (.cells [.owns 1 (ks.length + 1) (cz (rawI f (n + 1) ks) (rawE f (n + 1) ks))])⟩)]) (fun _ => True) ?_ trivial rfl [8] ?_ ?_ ?_ ?_
    · omega
    · omega
    · simp; omega
    · refine wk_of rfl ?_ ?_ hrc <;> (repeat' apply And.intro) <;> first | exact trivial | rfl | (intro o ho; simp [D.nm, nmL, ctNm, nmL_ownb, nmL_rob, nmL_str, nmL_cz] at ho; done) | (intro o ho; simp [D.nm, nmL, ctNm, nmL_ownb, nmL_rob, nmL_str, nmL_cz] at ho ⊢; first | done | omega) | (simp only [Z, Int.cast_ofNat_Int, UInt8.reduceToNat, UInt32.reduceToNat, Nat.reduceAdd, Nat.reduceMul, Nat.reduceSub, Nat.reduceLeDiff, Int.reduceToNat, Int.reducePow, Nat.reducePow]; done) | (simp [St.ob, St.slot, look]; done) | (simp [St.ob, St.slot, look]; omega) | simp [St.ob, St.slot, look] | skip
      refine ⟨rfl, ?_⟩
      show [D.ownb _] = [D.ownb (hdL f (n + 1))]
      unfold hdL n4
      rw [List.take_of_length_le (by simp; omega), show n + 1 - 5 = n - 4 by omega]
      rfl
    · exact look_nm rfl
    · exact fun d v h => absurd h (hrc d v)
    · intro C' pre k hE hP1 hkn _ hk hpre
      have hpb := Nat.lt_of_lt_of_le hpre (pcN_le (show 0 < n by omega))
      simp only [List.length_drop] at hpb
      have hP := hP1.trans hP
      have hm : C'.P.follows .mixedOrders = true := by rw [hP]; kernel_rfl
      clear hrc hrn
      refine vc_opens 8 0 902 (g := 0) rfl rfl (by first | rfl | exact fr0_ownb _ | exact fr0_cz _ _ | exact fr0_rob _ | exact fr0_str _ | simp [D.fr0]) rfl rfl (by (try simp only [Z, Int.cast_ofNat_Int, UInt8.reduceToNat, UInt32.reduceToNat, Nat.reduceAdd, Nat.reduceMul, Nat.reduceSub, Nat.reduceLeDiff, Int.reduceToNat, Int.reducePow, Nat.reducePow]) <;> rfl) ?_
      have hpl : (pc (List.drop (n - 4) f) n k).length ≤ n := by unfold pc; rw [List.length_take]; omega
      have hrl : (rawL f (n + 1) pre).length = pre.length + 1 := by simp [rawL]
      have htk : (rawL f (n + 1) pre).take (pre.length + 1) = rawL f (n + 1) pre := by rw [← hrl, List.take_length]
      refine vc_freeze 902 rfl (by first | rfl | exact fr0_ownb _ | exact fr0_cz _ _ | exact fr0_rob _ | exact fr0_str _ | simp [D.fr0]) ((frz_cz _ _)) ?_
      rw [raw_ie]
      repeat' (first | refine vs ?_ | ((first | apply vr rfl hE 200 rfl | (apply vrD rfl hE hm 200 rfl; (· kernel_rfl))); (· (try simp only [Z, Int.cast_ofNat_Int, UInt8.reduceToNat, UInt32.reduceToNat, Nat.reduceAdd, Nat.reduceMul, Nat.reduceSub, Nat.reduceLeDiff, Int.reduceToNat, Int.reducePow, Nat.reducePow]) <;> rfl); (· (repeat' (first | exact trivial | apply And.intro | refine List.forall_mem_cons.2 ?_ | exact List.forall_mem_nil _ | intro hgd)) <;> first | rfl | assumption | omega | (simp only [Z, Int.cast_ofNat_Int, UInt8.reduceToNat, UInt32.reduceToNat, Nat.reduceAdd, Nat.reduceMul, Nat.reduceSub, Nat.reduceLeDiff, Int.reduceToNat, Int.reducePow, Nat.reducePow]; first | done | omega) | (simp only [Z, Int.cast_ofNat_Int, UInt8.reduceToNat, UInt32.reduceToNat, Nat.reduceAdd, Nat.reduceMul, Nat.reduceSub, Nat.reduceLeDiff, Int.reduceToNat, Int.reducePow, Nat.reducePow, BN] at *; first | done | omega) | (simp_all [Z, BN]; done))) | refine sq_n ?_ | refine vc_skip ?_ | refine vc_exit ?_ | refine vc_ret ?_ | refine sq_r ?_ | refine sq_e ?_ | refine in_n ?_ | refine in_e ?_ | refine in_r ?_ | refine in_x rfl ?_ | refine vb ?_ | refine lq_r ?_ | refine lq_e ?_ | refine nq_r ?_ | refine nq_e ?_ | refine jq_r ?_ | refine jq_e ?_ | refine vT hE rfl rfl ?_ | refine vF hE rfl rfl ?_ | (refine vc hE rfl (fun hc => ?_) (fun hc => ?_) <;> (try simp only [BN, V1, V2] at hc) <;> (try (exfalso; omega))))
      rw [htk]
      refine rq_n ?_ trivial
      refine wclose 902 (rawL f (n + 1) pre).length 59 rfl (cat_last _ _) rfl rfl rfl rfl (cat_set _ _ _) ?_
      refine wcloses 8 0 902 rfl rfl rfl rfl rfl rfl rfl (by simp [hrl]) (fr0_cz _ _) rfl ?_
      obtain ⟨e1, e2⟩ := rawI_s f (n + 1) pre k
      rw [e1, e2]
      refine wk_ofk rfl ?_ ?_ (fun d v h o ho => by have := hkn d v h o ho; simp at this ⊢; try omega) <;> (repeat' apply And.intro) <;> first | exact trivial | rfl | (intro o ho; simp [D.nm, nmL, ctNm, nmL_ownb, nmL_rob, nmL_str, nmL_cz] at ho; done) | (intro o ho; simp [D.nm, nmL, ctNm, nmL_ownb, nmL_rob, nmL_str, nmL_cz] at ho ⊢; first | done | omega) | (simp only [Z, Int.cast_ofNat_Int, UInt8.reduceToNat, UInt32.reduceToNat, Nat.reduceAdd, Nat.reduceMul, Nat.reduceSub, Nat.reduceLeDiff, Int.reduceToNat, Int.reducePow, Nat.reducePow]; done) | (simp [St.ob, St.slot, look]; done) | (simp [St.ob, St.slot, look]; omega) | simp [St.ob, St.slot, look] | skip
      · unfold cz pk
        rw [List.take_of_length_le (by simp; omega), show n + 1 - 5 = n - 4 by omega]
        rfl
    · intro dk' _
      refine in_n ?_
      refine sq_n ?_
      rw [List.length_range]
      generalize hK : pcN (List.drop (n - 4) f).length n = K at *
      have hKb : K ≤ (List.drop (n - 4) f).length := by rw [← hK]; exact pcN_le (by omega)
      simp only [List.length_drop] at hKb
      have hRl := rawI_len f (n + 1) (List.range K)
      rw [List.length_range] at hRl
      generalize hR : rawI f (n + 1) (List.range K) = R at *
      have hXp := rawE_pos f (n + 1) (List.range K)
      generalize hX : rawE f (n + 1) (List.range K) = X at *
      refine vc_opens 8 0 902 (g := 0) rfl rfl (by first | rfl | exact fr0_ownb _ | exact fr0_cz _ _ | exact fr0_rob _ | exact fr0_str _ | simp [D.fr0]) rfl rfl (by (try simp only [Z, Int.cast_ofNat_Int, UInt8.reduceToNat, UInt32.reduceToNat, Nat.reduceAdd, Nat.reduceMul, Nat.reduceSub, Nat.reduceLeDiff, Int.reduceToNat, Int.reducePow, Nat.reducePow]) <;> rfl) ?_
      refine vc_open 902 R.length 903 (g := 0) (l := X) rfl (cz_last _ _) rfl rfl (cz_set _ _ _) ?_
      refine vs ?_
      first | refine vo rfl ?_ | refine voD rfl hm ?_
      apply rn hE 5 rfl; (· (try simp only [Z, Int.cast_ofNat_Int, UInt8.reduceToNat, UInt32.reduceToNat, Nat.reduceAdd, Nat.reduceMul, Nat.reduceSub, Nat.reduceLeDiff, Int.reduceToNat, Int.reducePow, Nat.reducePow]) <;> rfl); (· (repeat' (first | exact trivial | apply And.intro | refine List.forall_mem_cons.2 ?_ | exact List.forall_mem_nil _ | intro hgd)) <;> first | rfl | assumption | omega | (simp only [Z, Int.cast_ofNat_Int, UInt8.reduceToNat, UInt32.reduceToNat, Nat.reduceAdd, Nat.reduceMul, Nat.reduceSub, Nat.reduceLeDiff, Int.reduceToNat, Int.reducePow, Nat.reducePow]; first | done | omega) | (simp only [Z, Int.cast_ofNat_Int, UInt8.reduceToNat, UInt32.reduceToNat, Nat.reduceAdd, Nat.reduceMul, Nat.reduceSub, Nat.reduceLeDiff, Int.reduceToNat, Int.reducePow, Nat.reducePow, BN] at *; first | done | omega) | (simp_all [Z, BN]; done))
      have hKi : ((K + 1 : Nat) : Int) - 1 = (R.length : Int) := by omega
      simp only [hKi, Int.toNat_natCast]
      have hcell := cat_get R (D.sl 903 1 0 X.length)
      refine r1 hE rfl rfl rfl hcell (by simp only [hcell]; (repeat' (first | exact trivial | apply And.intro | refine List.forall_mem_cons.2 ?_ | exact List.forall_mem_nil _ | intro hgd)) <;> first | rfl | assumption | omega | (simp only [Z, Int.cast_ofNat_Int, UInt8.reduceToNat, UInt32.reduceToNat, Nat.reduceAdd, Nat.reduceMul, Nat.reduceSub, Nat.reduceLeDiff, Int.reduceToNat, Int.reducePow, Nat.reducePow]; first | done | omega) | (simp only [Z, Int.cast_ofNat_Int, UInt8.reduceToNat, UInt32.reduceToNat, Nat.reduceAdd, Nat.reduceMul, Nat.reduceSub, Nat.reduceLeDiff, Int.reduceToNat, Int.reducePow, Nat.reducePow, BN] at *; first | done | omega) | (simp_all [Z, BN]; done)) (by (try simp only [Z, Int.cast_ofNat_Int, UInt8.reduceToNat, UInt32.reduceToNat, Nat.reduceAdd, Nat.reduceMul, Nat.reduceSub, Nat.reduceLeDiff, Int.reduceToNat, Int.reducePow, Nat.reducePow]) <;> rfl) ?_
      apply rn hE 200 rfl; (· (try simp only [Z, Int.cast_ofNat_Int, UInt8.reduceToNat, UInt32.reduceToNat, Nat.reduceAdd, Nat.reduceMul, Nat.reduceSub, Nat.reduceLeDiff, Int.reduceToNat, Int.reducePow, Nat.reducePow]) <;> rfl); (· (repeat' (first | exact trivial | apply And.intro | refine List.forall_mem_cons.2 ?_ | exact List.forall_mem_nil _ | intro hgd)) <;> first | rfl | assumption | omega | (simp only [Z, Int.cast_ofNat_Int, UInt8.reduceToNat, UInt32.reduceToNat, Nat.reduceAdd, Nat.reduceMul, Nat.reduceSub, Nat.reduceLeDiff, Int.reduceToNat, Int.reducePow, Nat.reducePow]; first | done | omega) | (simp only [Z, Int.cast_ofNat_Int, UInt8.reduceToNat, UInt32.reduceToNat, Nat.reduceAdd, Nat.reduceMul, Nat.reduceSub, Nat.reduceLeDiff, Int.reduceToNat, Int.reducePow, Nat.reducePow, BN] at *; first | done | omega) | (simp_all [Z, BN]; done))
      first | refine rz ?_ | (refine rzD ?_ ?_; (· kernel_rfl))
      refine sq_n ?_
      refine vc_close 902 R.length 903 rfl (cat_last _ _) rfl rfl rfl rfl (cat_set _ _ _) ?_
      rw [List.drop_zero, List.take_of_length_le (by simp)]
      refine vc_freeze 902 rfl (fr0_cz R (X.set 0 0)) (frz_cz R (X.set 0 0)) ?_
      have hsp : splitP f ((n + 1 : Nat) : Int) = R ++ [X.set 0 0] := by
        unfold splitP splitL
        rw [if_pos h0, Int.toNat_natCast, if_neg (by omega), show n + 1 - 5 = n - 4 by omega, Nat.add_sub_cancel, ← List.length_drop, hK, hR, hX]
      rw [hsp]
      repeat' (first | refine vs ?_ | ((first | apply vr rfl hE 200 rfl | (apply vrD rfl hE hm 200 rfl; (· kernel_rfl))); (· (try simp only [Z, Int.cast_ofNat_Int, UInt8.reduceToNat, UInt32.reduceToNat, Nat.reduceAdd, Nat.reduceMul, Nat.reduceSub, Nat.reduceLeDiff, Int.reduceToNat, Int.reducePow, Nat.reducePow]) <;> rfl); (· (repeat' (first | exact trivial | apply And.intro | refine List.forall_mem_cons.2 ?_ | exact List.forall_mem_nil _ | intro hgd)) <;> first | rfl | assumption | omega | (simp only [Z, Int.cast_ofNat_Int, UInt8.reduceToNat, UInt32.reduceToNat, Nat.reduceAdd, Nat.reduceMul, Nat.reduceSub, Nat.reduceLeDiff, Int.reduceToNat, Int.reducePow, Nat.reducePow]; first | done | omega) | (simp only [Z, Int.cast_ofNat_Int, UInt8.reduceToNat, UInt32.reduceToNat, Nat.reduceAdd, Nat.reduceMul, Nat.reduceSub, Nat.reduceLeDiff, Int.reduceToNat, Int.reducePow, Nat.reducePow, BN] at *; first | done | omega) | (simp_all [Z, BN]; done))) | refine sq_n ?_ | refine vc_skip ?_ | refine vc_exit ?_ | refine vc_ret ?_ | refine sq_r ?_ | refine sq_e ?_ | refine in_n ?_ | refine in_e ?_ | refine in_r ?_ | refine in_x rfl ?_ | refine vb ?_ | refine lq_r ?_ | refine lq_e ?_ | refine nq_r ?_ | refine nq_e ?_ | refine jq_r ?_ | refine jq_e ?_ | refine vT hE rfl rfl ?_ | refine vF hE rfl rfl ?_ | (refine vc hE rfl (fun hc => ?_) (fun hc => ?_) <;> (try simp only [BN, V1, V2] at hc) <;> (try (exfalso; omega))))
      (first | refine fn_r ?_ | refine fn_n ?_); apply fin0 rfl; (· (first | apply mat1 rfl | apply mat2 rfl rfl | apply mat3 rfl rfl rfl) <;> (repeat' (first | exact .tnil | exact mat_eq rfl rfl | apply mat_i | apply mat_bl | apply mat_u8 | apply mat_u32 | apply mat_st | apply mat_ab | apply mat_rbe | apply mat_nrb | apply mat_nob | exact mat_nos rfl rfl | refine mat_slf (e := 1) rfl rfl rfl rfl ?_ ?_ ?_ (by first | exact fr0_rob _ | exact fr0_str _ | exact fr0_str _) | (apply mat_sls rfl rfl rfl rfl rfl rfl) | exact mat_pf rfl rfl rfl rfl rfl | (apply mat_s0 rfl rfl rfl; (· first | rfl | (simp; done) | (simp; omega) | omega)) | (apply mat_r0 rfl rfl rfl; (· first | rfl | (simp; done) | (simp; omega) | omega)) | apply mat_sl rfl rfl rfl | apply mat_rb rfl rfl rfl | apply mat_p rfl rfl rfl rfl | apply mc)) <;> (first | rfl | assumption | (simp only [Z, Int.cast_ofNat_Int, UInt8.reduceToNat, UInt32.reduceToNat, Nat.reduceAdd, Nat.reduceMul, Nat.reduceSub, Nat.reduceLeDiff, Int.reduceToNat, Int.reducePow, Nat.reducePow]; done) | (simp; done) | omega | (simp [List.take_of_length_le]; done) | (simp [hRl]) | skip)); (· decide); (· decide)
end Go.Proofs.Ytpmbdppppnbmnaa
