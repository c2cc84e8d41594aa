/- What the claim leans on, text Zuc: Tca, Tc. No condition beyond what each lemma states. -/
import Derived.Test.YtocfhkmdkdjinaaDoorZsa
import Derived.Test.YtocfhkmdkdjinaaDoorZpc
import Derived.Test.YtocfhkmdkdjinaaDoorZpa
import Derived.Test.YtocfhkmdkdjinaaDoorZub
import Derived.Test.YtocfhkmdkdjinaaDoorZuf
import Derived.Test.YtocfhkmdkdjinaaDoorZd
import Derived.Test.YtocfhkmdkdjinaaDoorZt
import Derived.Test.YtocfhkmdkdjinaaDoorZua
import Derived.Test.YtocfhkmdkdjinaaDoorZg

/- What TollgateCarries leans on, in plain Lean: a piece in a packet of EAP, in attributes of a sealed ask, comes whole. -/
namespace Go.Proofs.YtocfhkmdkdjinaaDoor
open Go Go.RowKit
set_option linter.unusedVariables false
set_option linter.unusedSimpArgs false
theorem tcz16_gb (i : Nat) : gb z16 i = 0 := by
  unfold z16 gb
  rw [List.getD_eq_getElem?_getD, List.getElem?_replicate]
  split <;> rfl
theorem tc_min (v : List UInt8) (n : Nat) : List.take (min (v.length : Int) (n : Int)).toNat v = v.take n := by
  rcases Nat.lt_or_ge n v.length with h | h
  · rw [show (min (v.length : Int) (n : Int)).toNat = n by omega]
  · rw [List.take_of_length_le (by omega), List.take_of_length_le h]
theorem tcidxF_no : ∀ (L : List (Int × List UInt8)) (k : Nat), (∀ a ∈ L, a.1 ≠ 80) → idxF L k = -1
  | [], k, _ => rfl
  | a :: L, k, h => by
    unfold idxF
    rw [if_neg (h a List.mem_cons_self)]
    exact tcidxF_no L (k + 1) (fun b hb => h b (List.mem_cons_of_mem _ hb))
theorem tcidxM_no {L : List (Int × List UInt8)} (h : ∀ a ∈ L, a.1 ≠ 80) : ¬ 0 ≤ idxM L := by
  unfold idxM
  rw [tcidxF_no L 0 h]
  omega
theorem tcbody_sp (l : List UInt8) : ∀ n, (bodyA (spL l (List.range n))).length = (l.take (n * 253)).length + 2 * n
  | 0 => by rw [Nat.zero_mul, List.take_zero]; rfl
  | n + 1 => by
    rw [List.range_succ, spL_s, bodyA_app, bodyA_one, List.length_append, tcbody_sp l n, enA_len]
    have e : (pc l 253 n).length = min 253 (l.length - n * 253) := by unfold pc; rw [List.length_take, List.length_drop]
    simp only [e, List.length_take]
    omega
theorem tcbody_split (l : List UInt8) : (bodyA (spL l (List.range (pcN l.length 253)))).length = l.length + 2 * pcN l.length 253 := by
  rw [tcbody_sp, List.take_of_length_le]
  unfold pcN
  omega
theorem tcjo_sp (l : List UInt8) : ∀ n, joA (spL l (List.range n)) = l.take (n * 253)
  | 0 => by rw [Nat.zero_mul, List.take_zero]; rfl
  | n + 1 => by
    have e : joA [((79 : Int), pc l 253 n)] = pc l 253 n := by unfold joA; rw [if_pos rfl]; unfold joA; rw [List.append_nil]
    rw [List.range_succ, spL_s, joA_app, tcjo_sp l n, e]
    unfold pc
    rw [Nat.succ_mul, List.take_add]
theorem tcjo_split (l : List UInt8) : joA (spL l (List.range (pcN l.length 253))) = l := by
  rw [tcjo_sp, List.take_of_length_le]
  unfold pcN
  omega
theorem tcsp_79 (l : List UInt8) (ks : List Nat) : ∀ a ∈ spL l ks, a.1 = 79 := by
  intro a ha
  unfold spL at ha
  obtain ⟨k, -, rfl⟩ := List.mem_map.1 ha
  rfl
theorem tcsp_v (l : List UInt8) (ks : List Nat) : ∀ a ∈ spL l ks, a.2.length ≤ 253 := by
  intro a ha
  unfold spL at ha
  obtain ⟨k, -, rfl⟩ := List.mem_map.1 ha
  show (pc l 253 k).length ≤ 253
  unfold pc
  rw [List.length_take]
  omega
/-- A packet of EAP in form: its bytes, and back. -/
theorem tcwr_ok {c i t : Int} {d : List UInt8} (h : szE c i t d.length ≠ 0) : ∃ B, weV c i t d = (B, 0) ∧ reP B = (c, i, t, d, 0) ∧ B.length = szE c i t d.length := by
  obtain ⟨h1, h2⟩ := re_we h
  exact ⟨weS c i t d, weV_1 h, h1, h2⟩
theorem tc_pack (i : Int) (d : List UInt8) (hi : 0 ≤ i ∧ i ≤ 255) (hd : d.length ≤ 4000) : ∃ B, weV 2 i 13 d = (B, 0) ∧ reP B = (2, i, 13, d, 0) ∧ B.length = 5 + d.length := by
  have hs : szE 2 i 13 d.length = 5 + d.length := szE_two (.inr rfl) hi (by omega) (by omega)
  obtain ⟨B, h1, h2, h3⟩ := tcwr_ok (by rw [hs]; omega)
  exact ⟨B, h1, h2, by rw [h3, hs]⟩
theorem tc_ask (i : Int) (A S b : List UInt8) (hi : 0 ≤ i ∧ i ≤ 255) (hb : b.length ≤ 3500) : ∃ out, slV 1 i (q16 A) (spL b (List.range (pcN b.length 253))) S = (out, 0) ∧ out.length ≤ 4096 ∧ opnP out S = (1, i, q16 A, spL b (List.range (pcN b.length 253)), 0) := by
  have hm := tcidxM_no (L := spL b (List.range (pcN b.length 253))) (fun a ha => by rw [tcsp_79 b _ a ha]; decide)
  have h2 := tcbody_split b
  have h3 : pcN b.length 253 ≤ 14 := by unfold pcN; omega
  have h1 : (spL b (List.range (pcN b.length 253))).all okA = true := List.all_eq_true.2 fun a ha => (okA_iff _).2 ⟨by rw [tcsp_79 b _ a ha]; decide, by rw [tcsp_79 b _ a ha]; decide, tcsp_v b _ a ha⟩
  generalize spL b (List.range (pcN b.length 253)) = L at *
  have hw : wrO 1 i (L ++ [(80, z16)]) = true := (wrO_iff _ _ _).2 ⟨rfl, hi.1, hi.2, by rw [List.all_append, h1]; decide, by
    rw [bodyA_snoc L z16 z16_len]
    simp only [List.length_append, z16_len, List.length_cons, List.length_nil]
    omega⟩
  refine ⟨wrS 1 i (q16 A) (seL 1 i (q16 A) L S), ?_, ?_, opn_seal i (q16 A) L S (q16_len _) (by omega) hw⟩
  · rw [slV_yes rfl hm, seV_yes hw]
  · have := (seV_le 1 i (q16 A) S L (q16_len _)).1
    rw [seV_yes hw] at this
    exact this
end Go.Proofs.YtocfhkmdkdjinaaDoor

/- TollgateCarries returns true. Printed by wp.py. -/
namespace Go.Proofs.YtocfhkmdkdjinaaDoor
open Go Go.RowKit
set_option linter.unusedVariables false
set_option linter.unusedSimpArgs false
set_option maxRecDepth 100000
set_option maxHeartbeats 8000000
attribute [local irreducible] inR VC RG VCn sq inS lq nq jq Wk
theorem sealT_fc (c i : Int) (au : List UInt8) (L : List (Int × List UInt8)) (sec : List UInt8) (hL : L.length ≤ 1000000) (hs : sec.length ≤ 100000) : FC Tryd.prog GO 38 [.agg [.int .i64 c, .int .i64 i, .u8 (gb au 0), .u8 (gb au 1), .u8 (gb au 2), .u8 (gb au 3), .u8 (gb au 4), .u8 (gb au 5), .u8 (gb au 6), .u8 (gb au 7), .u8 (gb au 8), .u8 (gb au 9), .u8 (gb au 10), .u8 (gb au 11), .u8 (gb au 12), .u8 (gb au 13), .u8 (gb au 14), .u8 (gb au 15), .owns 2 L.length (atO L)], .rob sec] (.tup [.ownb (slV c i (q16 au) L sec).1, .int .i64 (slV c i (q16 au) L sec).2]) none := by
  have h := seal_fc c i au L sec hL hs
  rw [← atO_frz] at h
  exact FC.frzA (pre := [.int .i64 c, .int .i64 i, .u8 (gb au 0), .u8 (gb au 1), .u8 (gb au 2), .u8 (gb au 3), .u8 (gb au 4), .u8 (gb au 5), .u8 (gb au 6), .u8 (gb au 7), .u8 (gb au 8), .u8 (gb au 9), .u8 (gb au 10), .u8 (gb au 11), .u8 (gb au 12), .u8 (gb au 13), .u8 (gb au 14), .u8 (gb au 15)]) rfl (atO_fr L) h
attribute [local irreducible] bodyA wrS wrO idxF idxM seV slV rpV rdO rdS prs rdP prC seL cutI opA ofP opnP opdP opdS md hm sha fnd joA spL weV reP takeT splitL joinS

namespace UtollgateCarries_fc
theorem U : type_of% (@drop_rep UInt8) ∧ type_of% (@drop_rep D) ∧ type_of% (@List.take_zero UInt8) ∧ type_of% (@List.take_zero D) ∧ type_of% @q16_take ∧ type_of% @q16_len ∧ type_of% @q16_fold ∧ type_of% @q16_map ∧ type_of% @decL ∧ type_of% @decI ∧ type_of% @atR_len ∧ type_of% @atO_len ∧ type_of% @atR_sc ∧ type_of% @atR_tk := ⟨(@drop_rep UInt8), (@drop_rep D), (@List.take_zero UInt8), (@List.take_zero D), @q16_take, @q16_len, @q16_fold, @q16_map, @decL, @decI, @atR_len, @atO_len, @atR_sc, @atR_tk⟩
end UtollgateCarries_fc
open UtollgateCarries_fc
theorem tollgateCarries_fc (lf : List UInt8) (sz : Int) (lk : List UInt8) : FC Tryd.prog GA 18 [.rob lf, .int .i64 sz, .rob lk] (.bool true) none := by
  refine fi_ 147 [6] ti_eq gpA Tryd.func18 (fun C hE hm hP hrc hrn => ?_)
  have hw1 := wr64 sz
  have t1 : List.take (min (lf.length : Int) 3000).toNat lf = lf.take 3000 := tc_min lf 3000
  have t2 : List.take (min (lk.length : Int) 30).toNat lk = lk.take 30 := tc_min lk 30
  have n1 : (lf.take 3000).length ≤ 3000 := by rw [List.length_take]; omega
  have n2 : (lk.take 30).length ≤ 30 := by rw [List.length_take]; omega
  generalize lf.take 3000 = f at *
  generalize lk.take 30 = S at *
  refine A_ ?_
  rw [t1, t2]
  obtain ⟨z, hz⟩ : ∃ z : Nat, (16 : Int) + IntKind.u64.wrap sz % 3000 = z := ⟨((16 : Int) + IntKind.u64.wrap sz % 3000).toNat, by omega⟩
  have hz1 : 16 ≤ z := by omega
  have hz2 : z ≤ 3015 := by omega
  rw [hz]
  clear hz hw1 t1 t2
  obtain ⟨hp, he⟩ : splitP f z = splitL f z ∧ splitE f z = 0 := splitP_ok hz1 (by omega) (by omega)
  have sf := (Split_fc f (z : Int)).any (G := GA)
  rw [hp, he] at sf
  first | refine O_ ?_ | refine OD_ hm ?_
  refine G_ 2 hE ?_
  refine rc_ hE hP (sf) Tryd.func62 ?_
  refine G_ 200 hE ?_
  first | refine rz ?_ | refine ZD_ ?_
  refine A_ ?_
  obtain ⟨L, hL⟩ : ∃ L, L = splitL f z := ⟨_, rfl⟩
  have hb : L.length ≤ 40000 := by
    rw [hL]
    by_cases hh : f.length ≤ z - 1
    · rw [splitL_one hh]; exact Nat.le_of_ble_eq_true rfl
    · rw [splitL_len hh]
      have := pcN_le (m := f.length - (z - 5)) (show 0 < z - 1 by omega)
      unfold splitK
      omega
  have hLl : ∀ i, (L.getD i []).length ≤ 3015 := fun i => by rw [hL]; exact Nat.le_trans (splitL_le hz1 i) hz2
  have hj : ∀ i, i < L.length → takeT (joinS f z i).1 (joinS f z i).2.1 (joinS f z i).2.2 (L.getD i []) = (if i + 1 = L.length then f else [], decide (i + 1 = L.length), 0, joinS f z (i + 1)) := fun i hi => by
    rw [hL] at hi ⊢
    exact join_step hz1 (by omega) hi
  have hje : joinS f z L.length = (false, 0, []) := jSL (by rw [hL])
  have hgl := joinS_len f z
  have h0 := jS0 f z
  rw [← hL]
  clear sf hp he
  clear hL
  refine wv_ (sgr_ 7 39) ?_
  first | refine O_ ?_ | refine OD_ hm ?_
  refine rc_ hE hP (pjNew_fc.any (G := GA)) Tryd.func63 ?_
  refine G_ 200 hE ?_
  first | refine rz ?_ | refine ZD_ ?_
  refine A_ ?_
  first | refine O_ ?_ | refine OD_ hm ?_
  refine rc_ hE hP (stands_fc.more GS_A) Tryd.func22 ?_
  refine G_ 2 hE ?_
  refine GT_ hE (rfl) ?_
  refine GT_ hE (rfl) ?_
  refine G_ 200 hE ?_
  first | refine rz ?_ | refine ZD_ ?_
  refine A_ ?_
  refine vl (fun i : Nat => ⟨[(0, .rob f), (2, .rob S), (7, .rof 1 L.length (fun i _ => .rob (L.getD i []))), (9, .ptr 42 1 0), (10, .int .i64 i)], [(42, ⟨⟨1, 1, 3⟩, some (.cells [.bool (joinS f z i).1, .int .i64 (joinS f z i).2.1, .ownb (joinS f z i).2.2])⟩)], []⟩) (fun i => i ≤ L.length) (fun i => L.length - i) 0 ?_ (Nat.zero_le _) (fun i hi => ?_)
  · rw [h0]
    exact wk_ hrc
  by_cases hiL : i < L.length
  · have hi1 : 0 ≤ (i : Int) % 256 ∧ (i : Int) % 256 ≤ 255 := by omega
    have hPl := hLl i
    have hj := hj i hiL
    have hgl := hgl i
    have hd1 : decide ((i : Int) < (L.length : Int)) = true := decide_eq_true (by omega)
    obtain ⟨B, b1, b2, b3⟩ := tc_pack ((i : Int) % 256) (L.getD i []) hi1 (by omega)
    obtain ⟨o1, s1, l1, p1⟩ := tc_ask ((i : Int) % 256) z16 S B hi1 (by omega)
    have kw := (ewrite_fc 2 ((i : Int) % 256) 13 (L.getD i []) (by omega)).any (G := GA)
    rw [b1] at kw
    have spf := (split_fc B (by omega)).any (G := GA)
    have hjo := tcjo_split B
    have hAl : (spL B (List.range (pcN B.length 253))).length ≤ 20 := by rw [spL_len, List.length_range]; unfold pcN; omega
    generalize spL B (List.range (pcN B.length 253)) = A at *
    have se := (sealT_fc 1 ((i : Int) % 256) z16 A S (by omega) (by omega)).more GO_A
    rw [s1] at se
    simp only [tcz16_gb] at se
    have op := (open2_fc o1 S 1 ((i : Int) % 256) z16 A 0 (by omega) (by omega) p1).more GO_A
    simp only [tcz16_gb] at op
    have jf := (join_fc A (by omega) (by rw [hjo]; omega)).any (G := GA)
    rw [hjo] at jf
    have rf := (eread_fc B 2 ((i : Int) % 256) 13 (L.getD i []) 0 (by omega) b2).any (G := GA)
    have tk := (Take_fc (joinS f z i).1 (joinS f z i).2.1 (joinS f z i).2.2 (L.getD i []) (by omega)).any (G := GA)
    rw [hj] at tk
    refine A_ ?_
    rw [hd1]
    refine A_ ?_
    first | refine O_ ?_ | refine OD_ hm ?_
    refine G_ 7 hE ?_
    refine rc_ hE hP (kw) Tryd.func64 ?_
    refine G_ 200 hE ?_
    first | refine rz ?_ | refine ZD_ ?_
    refine A_ ?_
    refine wv_ (sgb_ 11 63) ?_
    first | refine O_ ?_ | refine OD_ hm ?_
    refine G_ 3 hE ?_
    refine rc_ hE hP (spf) Tryd.func46 ?_ (hm := by exact ma2_) (hnr := by exact nrt2_) (had := by exact adt2_)
    refine G_ 2 hE ?_
    refine rco_ hE hP (se) Tryd.func38 ?_ (hm := by exact ma4_)
    refine G_ 200 hE ?_
    first | refine rz ?_ | refine ZD_ ?_
    refine A_ ?_
    refine wv_ (sgb_ 13 73) ?_
    first | refine O_ ?_ | refine OD_ hm ?_
    refine G_ 2 hE ?_
    refine rc_ hE hP (op) Tryd.func39 ?_ (hm := by exact ma2_) (hnr := by exact nrt2_) (had := by exact adt2_)
    refine G_ 200 hE ?_
    first | refine rz ?_ | refine ZD_ ?_
    refine A_ ?_
    first | refine O_ ?_ | refine OD_ hm ?_
    refine G_ 2 hE ?_
    refine rc_ hE hP (jf) Tryd.func50 ?_ (hm := by exact ma2_) (hnr := by exact nrt2_) (had := by exact adt2_)
    refine rg_w (sgb_ 85 85) ?_
    refine rc_ hE hP (rf) Tryd.func65 ?_ (hm := by exact ma2_) (hnr := by exact nrt2_) (had := by exact adt2_)
    refine G_ 200 hE ?_
    first | refine rz ?_ | refine ZD_ ?_
    refine A_ ?_
    by_cases hl : i + 1 = L.length
    · have hd2 : decide (i + 1 = L.length) = true := decide_eq_true hl
      have hd3 : decide ((i : Int) = (L.length : Int) - 1) = true := decide_eq_true (by omega)
      rw [hd2, if_pos hl] at tk
      first | refine O_ ?_ | refine OD_ hm ?_
      refine G_ 3 hE ?_
      refine rc_ hE hP (tk) Tryd.func66 ?_
      refine G_ 200 hE ?_
      first | refine rz ?_ | refine ZD_ ?_
      refine A_ ?_
      rw [hd3]
      refine A_ ?_
      refine lq_n (i + 1) ?_ (by omega) (by omega)
      exact wk_ hrc
    · have hd2 : decide (i + 1 = L.length) = false := decide_eq_false hl
      have hd3 : decide ((i : Int) = (L.length : Int) - 1) = false := decide_eq_false (by omega)
      rw [hd2, if_neg hl] at tk
      first | refine O_ ?_ | refine OD_ hm ?_
      refine G_ 3 hE ?_
      refine rc_ hE hP (tk) Tryd.func66 ?_
      refine G_ 200 hE ?_
      first | refine rz ?_ | refine ZD_ ?_
      refine A_ ?_
      rw [hd3]
      refine A_ ?_
      refine lq_n (i + 1) ?_ (by omega) (by omega)
      exact wk_ hrc
  · obtain rfl : i = L.length := by omega
    rw [hje]
    repeat' (first | refine A1_ ?_ | refine C_ hE (fun hc => ?_) (fun hc => ?_) <;> (try (exfalso; omega)))
    first | refine O_ ?_ | refine OD_ hm ?_
    refine G_ 1 hE ?_
    refine rc_ hE hP ((Waits_fc false 0 []).any (G := GA)) Tryd.func67 ?_
    refine G_ 200 hE ?_
    first | refine rz ?_ | refine ZD_ ?_
    repeat' (first | refine A1_ ?_ | refine C_ hE (fun hc => ?_) (fun hc => ?_) <;> (try (exfalso; omega)))
    exact ret_ (h := by (first | exact Mat.tnil | apply mat1 rfl | apply mat2 rfl rfl | apply mat3 rfl rfl rfl) <;> (repeat' (first | exact .tnil | exact mat_eq rfl rfl | apply mat_i | apply mat_bl | apply mat_u8 | apply mat_u32 | apply mat_st | apply mat_ab | apply mat_rbe | apply mat_nrb | apply mat_nob | exact mat_nos rfl rfl | exact mat_rf0 rfl | exact mat_trob | (apply mat_rf rfl rfl rfl) | refine mat_slf (e := 1) rfl rfl rfl rfl ?_ ?_ ?_ (by first | exact fr0_rob _ | exact fr0_str _ | exact fr0_str _) | (apply mat_sls rfl rfl rfl rfl rfl rfl) | exact mat_pf rfl rfl rfl rfl rfl | (apply mat_s0 rfl rfl rfl; (· first | rfl | (simp <;> fail) | (simp; omega) | omega)) | (apply mat_r0 rfl rfl rfl; (· first | rfl | (simp <;> fail) | (simp; omega) | omega)) | apply mat_sl rfl rfl rfl | apply mat_rb rfl rfl rfl | apply mat_p rfl rfl rfl rfl | apply mc)) <;> (first | rfl | assumption | (simp only [Z, U, Int.cast_ofNat_Int, UInt8.reduceToNat, UInt32.reduceToNat, Nat.reduceAdd, Nat.reduceMul, Nat.reduceSub, Nat.reduceLeDiff, Int.reduceToNat, Int.reducePow, Nat.reducePow] <;> fail) | (simp <;> fail) | omega | (simp [List.take_of_length_le] <;> fail) | (simp)))
end Go.Proofs.YtocfhkmdkdjinaaDoor
