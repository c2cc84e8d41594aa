/- What the claim leans on, text Zl: Wr4. No condition beyond what each lemma states. -/
import Derived.Test.YtocfhkmdkdjinaaDoorZd
import Derived.Test.YtocfhkmdkdjinaaDoorZt
import Derived.Test.YtocfhkmdkdjinaaDoorZj

/- The law's wraps, key and secret; WrapUnwraps returns true. Printed by wp.py. -/
namespace Go.Proofs.YtocfhkmdkdjinaaDoor
open Go Go.RowKit
set_option linter.unusedVariables false
set_option linter.unusedSimpArgs false
set_option maxRecDepth 100000
set_option maxHeartbeats 4000000
attribute [local irreducible] inR VC RG VCn sq inS lq nq jq Wk rq
theorem bxx (v : Bool) : (!(v == v)) = false := by cases v <;> rfl
/-- What is known of a key's value. -/
theorem wr_facts (k : Int) (key salt asked sec : List UInt8) (hc : wrC k key (q2 salt) = true) : ∃ V, wrR k key (q2 salt) (q16 asked) sec = (V, 0) ∧ V.length = 8 + (pad16 (b8 (key.length : Int) :: key)).length ∧ unw V (q16 asked) sec = (k, key, 0) ∧ gb V 3 = 55 ∧ gb V 6 = gb salt 0 ∧ gb V 7 = gb salt 1 ∧ gb V 5 = b8 ((V.length : Int) - 4) := by
  have hl : (wrB k key (q2 salt) (q16 asked) sec).length = 8 + (pad16 (b8 (key.length : Int) :: key)).length := by
    rw [wrB_def]
    simp only [List.length_append, hid_length, q2_len]
    simp [vend]
  refine ⟨wrB k key (q2 salt) (q16 asked) sec, wrR_yes hc, hl, un_wr k key (q2 salt) (q16 asked) sec (q16_len _) (q2_len _) hc, ?_, ?_, ?_, ?_⟩
  · rw [wrB_def]; rfl
  · rw [wrB_def]; rfl
  · rw [wrB_def]; rfl
  · rw [hl, wrB_def, ← hid_length sec (q16 asked ++ q2 salt)]
    show b8 _ = _
    congr 1
    omega
attribute [local irreducible] md hidB shoB pad16 wrB wrR unw

namespace Uwraps_fc
theorem U : type_of% @md_take ∧ type_of% @md_len ∧ type_of% (@drop_rep UInt8) ∧ type_of% (@drop_rep D) ∧ type_of% (@List.take_zero UInt8) ∧ type_of% (@List.take_zero D) ∧ type_of% @q16_take ∧ type_of% @q2_take ∧ type_of% @q16_len ∧ type_of% @q2_len ∧ type_of% @q2_fold ∧ type_of% @q16_fold ∧ type_of% @bxx := ⟨@md_take, @md_len, (@drop_rep UInt8), (@drop_rep D), (@List.take_zero UInt8), (@List.take_zero D), @q16_take, @q2_take, @q16_len, @q2_len, @q2_fold, @q16_fold, @bxx⟩
end Uwraps_fc
open Uwraps_fc
theorem wraps_fc  : FC Tryd.prog GO 27 [] (.bool true) none := by
  refine fi_ 50 [0] ti_eq gpO Tryd.func27 (fun C hE hm hP hrc hrn => ?_)
  obtain ⟨V, hV, hl, hu, h3, _⟩ := wr_facts 16 (List.replicate 32 0) [128, 0] [1] [115] (by decide)
  have hl' : V.length = 56 := by
    have := pad16_len (b8 ((List.replicate 32 (0 : UInt8)).length : Int) :: List.replicate 32 0)
    simp only [List.length_cons, List.length_replicate] at this hl
    omega
  have fc1 := wrap_fc 16 (List.replicate 32 0) [128, 0] [1] [115] (by decide) (by decide)
  rw [hV] at fc1
  have fc2 := unwrap_fc V [1] [115] (by omega) (by decide)
  rw [hu] at fc2
  refine A_ ?_
  first | refine O_ ?_ | refine OD_ hm ?_
  refine G_ 200 hE ?_
  refine rc_ hE hP (fc1) Tryd.func19 ?_
  refine G_ 200 hE ?_
  first | refine rz ?_ | refine ZD_ ?_
  refine A_ ?_
  first | refine O_ ?_ | refine OD_ hm ?_
  refine G_ 200 hE ?_
  refine rc_ hE hP (fc2) Tryd.func23 ?_
  refine G_ 200 hE ?_
  first | refine rz ?_ | refine ZD_ ?_
  refine A_ ?_
  exact ret_ (h := by (first | exact Mat.tnil | apply mat1 rfl | apply mat2 rfl rfl | apply mat3 rfl rfl rfl) <;> (repeat' (first | exact .tnil | exact mat_eq rfl rfl | apply mat_i | apply mat_bl | apply mat_u8 | apply mat_u32 | apply mat_st | apply mat_ab | apply mat_rbe | apply mat_nrb | apply mat_nob | exact mat_nos rfl rfl | exact mat_rf0 rfl | exact mat_trob | (apply mat_rf rfl rfl rfl) | refine mat_slf (e := 1) rfl rfl rfl rfl ?_ ?_ ?_ (by first | exact fr0_rob _ | exact fr0_str _ | exact fr0_str _) | (apply mat_sls rfl rfl rfl rfl rfl rfl) | exact mat_pf rfl rfl rfl rfl rfl | (apply mat_s0 rfl rfl rfl; (· first | rfl | (simp <;> fail) | (simp; omega) | omega)) | (apply mat_r0 rfl rfl rfl; (· first | rfl | (simp <;> fail) | (simp; omega) | omega)) | apply mat_sl rfl rfl rfl | apply mat_rb rfl rfl rfl | apply mat_p rfl rfl rfl rfl | apply mc)) <;> (first | rfl | assumption | (simp only [Z, U, Int.cast_ofNat_Int, UInt8.reduceToNat, UInt32.reduceToNat, Nat.reduceAdd, Nat.reduceMul, Nat.reduceSub, Nat.reduceLeDiff, Int.reduceToNat, Int.reducePow, Nat.reducePow] <;> fail) | (simp [hl', h3, *] <;> fail) | (simp_all [hl', h3] <;> fail) | (simp <;> fail) | omega | (simp [List.take_of_length_le] <;> fail)))

theorem key_fc (k : Int) (key s a sec : List UInt8) : FC Tryd.prog GE 24 [.agg [.int .i64 k, .rob key, .u8 (gb s 0), .u8 (gb s 1), .u8 (gb a 0), .u8 (gb a 1), .u8 (gb a 2), .u8 (gb a 3), .u8 (gb a 4), .u8 (gb a 5), .u8 (gb a 6), .u8 (gb a 7), .u8 (gb a 8), .u8 (gb a 9), .u8 (gb a 10), .u8 (gb a 11), .u8 (gb a 12), .u8 (gb a 13), .u8 (gb a 14), .u8 (gb a 15), .rob sec]] (.ownb (key.take (min (key.length : Int) 250).toNat)) none := by
  refine fi_ 12 [2] ti_eq gpE Tryd.func24 (fun C hE hm hP hrc hrn => ?_)
  refine A_ ?_
  exact ret_

theorem secret_fc (k : Int) (key s a sec : List UInt8) : FC Tryd.prog GE 25 [.agg [.int .i64 k, .rob key, .u8 (gb s 0), .u8 (gb s 1), .u8 (gb a 0), .u8 (gb a 1), .u8 (gb a 2), .u8 (gb a 3), .u8 (gb a 4), .u8 (gb a 5), .u8 (gb a 6), .u8 (gb a 7), .u8 (gb a 8), .u8 (gb a 9), .u8 (gb a 10), .u8 (gb a 11), .u8 (gb a 12), .u8 (gb a 13), .u8 (gb a 14), .u8 (gb a 15), .rob sec]] (.ownb (sec.take (min (sec.length : Int) 60).toNat)) none := by
  refine fi_ 12 [2] ti_eq gpE Tryd.func25 (fun C hE hm hP hrc hrn => ?_)
  refine A_ ?_
  exact ret_

theorem wrapUnwraps_fc (l0 a l2 : List UInt8) : FC Tryd.prog GO 5 [.rob l0, .aggb (q16 a), .rob l2] (.bool true) none := by
  refine fi_ 60 [6] ti_eq gpO Tryd.func5 (fun C hE hm hP hrc hrn => ?_)
  have hv : (l0.take (min (l0.length : Int) 300).toNat).length ≤ 300 := by rw [List.length_take]; omega
  have hs : (l2.take (min (l2.length : Int) 60).toNat).length ≤ 60 := by rw [List.length_take]; omega
  refine A_ ?_
  rw [← List.length_take]
  generalize l0.take (min (l0.length : Int) 300).toNat = v at *
  generalize l2.take (min (l2.length : Int) 60).toNat = sec at *
  first | refine O_ ?_ | refine OD_ hm ?_
  refine G_ 200 hE ?_
  refine rc_ hE hP (unwrap_fc v a sec (by omega) (by omega)) Tryd.func23 ?_
  refine G_ 200 hE ?_
  first | refine rz ?_ | refine ZD_ ?_
  refine A_ ?_
  first | refine O_ ?_ | refine OD_ hm ?_
  refine G_ 200 hE ?_
  refine rc_ hE hP ((runwrap_fc v a sec (by omega) (by omega)).any) Tryd.func28 ?_
  refine G_ 200 hE ?_
  first | refine rz ?_ | refine ZD_ ?_
  generalize unw v (q16 a) sec = R at *
  obtain ⟨r1, r2, r3⟩ := R
  refine A_ ?_
  first | refine O_ ?_ | refine OD_ hm ?_
  refine G_ 200 hE ?_
  refine rc_ hE hP (wraps_fc) Tryd.func27 ?_
  refine G_ 200 hE ?_
  first | refine rz ?_ | refine ZD_ ?_
  refine A_ ?_
  exact ret_
end Go.Proofs.YtocfhkmdkdjinaaDoor
