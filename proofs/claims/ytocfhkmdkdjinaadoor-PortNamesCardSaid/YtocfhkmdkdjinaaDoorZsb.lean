/- What the claim leans on, text Zsb: Spk. No condition beyond what each lemma states. -/
import Derived.Test.YtocfhkmdkdjinaaDoorZd
import Derived.Test.YtocfhkmdkdjinaaDoorZt
import Derived.Test.YtocfhkmdkdjinaaDoorZre
import Derived.Test.YtocfhkmdkdjinaaDoorZsa

/- The laws of layer 19: speaks. Printed by wp.py. -/
namespace Go.Proofs.YtocfhkmdkdjinaaDoor
open Go Go.RowKit
set_option linter.unusedVariables false
set_option linter.unusedSimpArgs false
set_option maxRecDepth 100000
set_option maxHeartbeats 4000000
attribute [local irreducible] inR VC RG VCn sq inS lq nq jq Wk
theorem z16_gb (i : Nat) : gb z16 i = 0 := by
  unfold z16 gb
  rw [List.getD_eq_getElem?_getD, List.getElem?_replicate]
  split <;> rfl
theorem spk_w : wrO 1 1 [(1, [97])] = true := by decide
theorem spk_w2 : wrO 1 1 ([(1, [97])] ++ [(80, z16)]) = true := by decide
theorem spk_i : ¬ 0 ≤ idxM [(1, [97])] := by decide
theorem spk_B : ∃ B : List UInt8, wrV 1 1 (q16 z16) [(1, [97])] = (B, 0) ∧ B.length = 23 ∧ gb B 22 = 97 ∧ gb B 3 = 23 := ⟨wrS 1 1 (q16 z16) [(1, [97])], wrV_yes spk_w, by decide, by decide, by decide⟩
theorem spk_C : ∃ B : List UInt8, slV 1 1 (q16 z16) [(1, [97])] [115] = (B, 0) ∧ B.length = 41 ∧ opnP B [115] = (1, 1, q16 z16, [(1, [97])], 0) := by
  refine ⟨wrS 1 1 (q16 z16) (seL 1 1 (q16 z16) [(1, [97])] [115]), ?_, ?_, opn_seal 1 (q16 z16) [(1, [97])] [115] (q16_len _) (by decide) spk_w2⟩
  · rw [slV_yes rfl spk_i, seV_yes spk_w2]
  · unfold seL
    rw [wrS_len, q16_len, bodyA_snoc _ _ (hmM_len _ _)]
    simp only [List.length_append, hmM_len]
    rfl
theorem spk_at : [D.int .i64 1, D.rob [97]] = atR [(1, [97])] := rfl
theorem spk_sc : D.rob [115] = D.rob [115] := rfl
attribute [local irreducible] bodyA wrS wrO idxF idxM z16 seV slV rpV rdO rdS prs rdP prC wrV seL cutI opA ofP opnP opdP opdS md

namespace Uspeaks_fc
theorem U : type_of% (@drop_rep UInt8) ∧ type_of% (@drop_rep D) ∧ type_of% (@List.take_zero UInt8) ∧ type_of% (@List.take_zero D) ∧ type_of% @q16_take ∧ type_of% @q16_len ∧ type_of% @q16_fold ∧ type_of% @q16_map ∧ type_of% @decL ∧ type_of% @decI ∧ type_of% @atS_len ∧ type_of% @md_len ∧ type_of% @md_take ∧ type_of% @hmM_len ∧ type_of% @hmM_take ∧ type_of% @atR_len ∧ type_of% @atO_len := ⟨(@drop_rep UInt8), (@drop_rep D), (@List.take_zero UInt8), (@List.take_zero D), @q16_take, @q16_len, @q16_fold, @q16_map, @decL, @decI, @atS_len, @md_len, @md_take, @hmM_len, @hmM_take, @atR_len, @atO_len⟩
end Uspeaks_fc
open Uspeaks_fc
theorem speaks_fc  : FC Tryd.prog GO 33 [] (.bool true) none := by
  refine fi_ 70 [0] ti_eq gpO Tryd.func33 (fun C hE hm hP hrc hrn => ?_)
  obtain ⟨B, hB, hBl, hB22, hB3⟩ := spk_B
  obtain ⟨E, hE1, hEl, hop⟩ := spk_C
  have wf := write_fc 1 1 z16 [(1, [97])]
  have sf := seal_fc 1 1 z16 [(1, [97])] [115] (by simp) (by simp)
  have opf := open2_fc E [115] 1 1 z16 [(1, [97])] 0 (by omega) (by simp) hop
  rw [hB] at wf
  rw [hE1] at sf
  simp only [z16_gb] at wf sf opf
  refine A_ ?_
  refine VC.weak ?_ (kclose 11 1 8 (by exact rfl) (by exact rfl) (by exact rfl) (by exact rfl) (by exact rfl) (by exact rfl) (by exact rfl))
  refine VC.weak ?_ (kfreeze 11 (cs' := atR [(1, [97])]) (by exact rfl) (by exact rfl) (by exact rfl))
  first | refine O_ ?_ | refine OD_ hm ?_
  refine G_ 1 hE ?_
  refine rc_ hE hP (wf.any) Tryd.func31 ?_ (hm := by exact ma2_) (hnr := by exact nrt2_) (had := by exact adt2_)
  refine G_ 200 hE ?_
  first | refine rz ?_ | refine ZD_ ?_
  refine A_ ?_
  first | refine O_ ?_ | refine OD_ hm ?_
  refine G_ 3 hE ?_
  refine rco_ hE hP (sf) Tryd.func38 ?_
  refine G_ 200 hE ?_
  first | refine rz ?_ | refine ZD_ ?_
  refine A_ ?_
  refine wv_ (sgb_ 4 22) ?_
  first | refine O_ ?_ | refine OD_ hm ?_
  refine G_ 3 hE ?_
  refine rg_w (sgb_ 28 27) ?_
  refine rc_ hE hP (opf) Tryd.func39 ?_ (hm := by exact ma2_) (hnr := by exact nrt2_) (had := by exact adt2_)
  refine G_ 200 hE ?_
  first | refine rz ?_ | refine ZD_ ?_

  refine A_ ?_
  exact ret_ (h := by (first | exact Mat.tnil | apply mat1 rfl | apply mat2 rfl rfl | apply mat3 rfl rfl rfl) <;> (repeat' (first | exact .tnil | exact mat_eq rfl rfl | apply mat_i | apply mat_bl | apply mat_u8 | apply mat_u32 | apply mat_st | apply mat_ab | apply mat_rbe | apply mat_nrb | apply mat_nob | exact mat_nos rfl rfl | exact mat_rf0 rfl | exact mat_trob | (apply mat_rf rfl rfl rfl) | refine mat_slf (e := 1) rfl rfl rfl rfl ?_ ?_ ?_ (by first | exact fr0_rob _ | exact fr0_str _ | exact fr0_str _) | (apply mat_sls rfl rfl rfl rfl rfl rfl) | exact mat_pf rfl rfl rfl rfl rfl | (apply mat_s0 rfl rfl rfl; (· first | rfl | (simp <;> fail) | (simp; omega) | omega)) | (apply mat_r0 rfl rfl rfl; (· first | rfl | (simp <;> fail) | (simp; omega) | omega)) | apply mat_sl rfl rfl rfl | apply mat_rb rfl rfl rfl | apply mat_p rfl rfl rfl rfl | apply mc)) <;> (first | rfl | assumption | (simp only [Z, U, Int.cast_ofNat_Int, UInt8.reduceToNat, UInt32.reduceToNat, Nat.reduceAdd, Nat.reduceMul, Nat.reduceSub, Nat.reduceLeDiff, Int.reduceToNat, Int.reducePow, Nat.reducePow] <;> fail) | (simp <;> fail) | omega | (simp [List.take_of_length_le] <;> fail) | (simp [hBl, hB22, hB3, hEl])))
end Go.Proofs.YtocfhkmdkdjinaaDoor
