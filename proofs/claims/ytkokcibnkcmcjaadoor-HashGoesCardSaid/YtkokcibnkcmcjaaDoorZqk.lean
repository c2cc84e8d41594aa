/- What the claim leans on, text Zqk: Sh29. No condition beyond what each lemma states. -/
import Derived.Test.YtkokcibnkcmcjaaDoorZd
import Derived.Test.YtkokcibnkcmcjaaDoorZt
import Derived.Test.YtkokcibnkcmcjaaDoorZi

/- Few whose rows are its caller's own; what a State that is nil says. Printed by wp.py. -/
namespace Go.Proofs.YtkokcibnkcmcjaaDoor
open Go Go.RowKit
set_option linter.unusedVariables false
set_option linter.unusedSimpArgs false
set_option maxRecDepth 100000
set_option maxHeartbeats 4000000
attribute [local irreducible] inR VC RG VCn sq inS lq nq jq Wk
theorem catO_last (L : List (List UInt8)) (d : D) : (L.map D.ownb ++ [d])[L.length]? = some d := by simp
theorem catO_set (L : List (List UInt8)) (d e : D) : (L.map D.ownb ++ [d]).set L.length e = L.map D.ownb ++ [e] := by
  rw [List.set_append_right _ _ (by simp)]
  simp

namespace UFewO_fc
theorem U : type_of% @stC_len ∧ type_of% @sha_take ∧ type_of% @sha_length ∧ type_of% (@drop_rep UInt8) ∧ type_of% (@drop_rep D) ∧ type_of% (@List.take_zero UInt8) ∧ type_of% (@List.take_zero D) ∧ type_of% @List.length_map ∧ type_of% @List.length_set := ⟨@stC_len, @sha_take, @sha_length, (@drop_rep UInt8), (@drop_rep D), (@List.take_zero UInt8), (@List.take_zero D), @List.length_map, @List.length_set⟩
end UFewO_fc
open UFewO_fc
theorem FewO_fc (ps : List (List UInt8)) (m e : Nat) (hm : m ≤ 1000) (he : e ≤ 1000000) : FC Tryd.prog GE 21 [.rof 1 ps.length (fun i _ => .rob (ps.getD i [])), .int .i64 m, .int .i64 e] (.owns 1 (fewL ps m e).length ((fewL ps m e).map D.ownb)) none := by
  refine fi_ 38 [6] ti_eq gpE Tryd.func21 (fun C hE hm hP hrc hrn => ?_)
  refine A_ ?_
  refine VC.weak ?_ (kniln 7 36 1 (c := .cells []) rfl rfl rfl)
  refine vl (fun k : Nat => ⟨[(0, .rof 1 ps.length (fun i _ => .rob (ps.getD i []))), (1, .int .i64 m), (2, .int .i64 e), (7, .sl 36 (1 + k) 0 (fewL ps k e).length), (8, .int .i64 k)], [(36, ⟨⟨1 + k, 1, (fewL ps k e).length⟩, some (.cells ((fewL ps k e).map D.ownb))⟩)], []⟩) (fun k => k ≤ ps.length ∧ k ≤ m) (fun k => m - k) 0 ?_ ⟨Nat.zero_le _, Nat.zero_le _⟩ (fun k hk => ?_)
  · exact wk_ hrc
  · have hl := fewL_len ps k e
    by_cases hkl : k < ps.length
    · by_cases hkm : k < m
      · repeat' (first | refine A1_ ?_ | refine C_ hE (fun hc => ?_) (fun hc => ?_) <;> (try (exfalso; omega)))
        first | refine O_ ?_ | refine OD_ hm ?_
        refine G_ 16 hE ?_
        refine AO_ hE ?_
        refine G_ 200 hE ?_
        first | refine rz ?_ | refine ZD_ ?_
        refine A_ ?_
        refine lq_n (k + 1) ?_ ⟨by omega, by omega⟩ (by omega)
        have hl2 : (fewL ps k e).length + 1 = (fewL ps (k + 1) e).length := by rw [fewL_succ ps e hkl, List.length_append]; rfl
        refine Wk.trans (kclose 36 (fewL ps k e).length 21 (cs' := (fewL ps k e).map D.ownb ++ [.ownb ((ps.getD k []).take e)]) rfl (catO_last _ _) rfl rfl rfl rfl (by rw [catO_set, few_row])) ?_
        rw [show (fewL ps k e).map D.ownb ++ [D.ownb ((ps.getD k []).take e)] = (fewL ps (k + 1) e).map D.ownb by rw [fewL_succ ps e hkl, List.map_append]; rfl, hl2]
        exact wk_ hrc
      · obtain rfl : k = m := by omega
        repeat' (first | refine A1_ ?_ | refine C_ hE (fun hc => ?_) (fun hc => ?_) <;> (try (exfalso; omega)))
        exact ret_ (h := mat1 rfl (mat_slf (e := 1) rfl rfl rfl rfl rfl rfl (by simp) (fr0_ownb _)))
    · rw [fewL_min ps m e k (by omega)] at hl ⊢
      repeat' (first | refine A1_ ?_ | refine C_ hE (fun hc => ?_) (fun hc => ?_) <;> (try (exfalso; omega)))
      exact ret_ (h := mat1 rfl (mat_slf (e := 1) rfl rfl rfl rfl rfl rfl (by simp) (fr0_ownb _)))

theorem PutN_fc (p : List UInt8) : FC Tryd.prog GE 27 [.nilP, .rof 1 [p].length (fun i _ => .rob ([p].getD i []))] (.tup []) none := by
  refine fi_ 60 [] ti_eq gpE Tryd.func27 (fun C hE hm hP hrc hrn => ?_)
  repeat' (first | refine A1_ ?_ | refine C_ hE (fun hc => ?_) (fun hc => ?_) <;> (try (exfalso; omega)))
  exact ret_

theorem SumN_fc  : FC Tryd.prog GE 28 [.nilP] (.aggb (List.replicate 32 0)) none := by
  refine fic_ 93 ti_eq gpE Tryd.func28 (fun C hE hm hP hrc hrn => ?_)
  repeat' (first | refine A1_ ?_ | refine C_ hE (fun hc => ?_) (fun hc => ?_) <;> (try (exfalso; omega)))
  exact retc_

theorem SizeN_fc  : FC Tryd.prog GE 33 [.nilP] (.int .i64 0) none := by
  refine fi_ 9 [2] ti_eq gpE Tryd.func33 (fun C hE hm hP hrc hrn => ?_)
  repeat' (first | refine A1_ ?_ | refine C_ hE (fun hc => ?_) (fun hc => ?_) <;> (try (exfalso; omega)))
  exact ret_

theorem CopyN_fc  : FC Tryd.prog GE 34 [.nilP] .nilP none := by
  refine fi_ 21 [2] ti_eq gpE Tryd.func34 (fun C hE hm hP hrc hrn => ?_)
  repeat' (first | refine A1_ ?_ | refine C_ hE (fun hc => ?_) (fun hc => ?_) <;> (try (exfalso; omega)))
  exact ret_
end Go.Proofs.YtkokcibnkcmcjaaDoor
