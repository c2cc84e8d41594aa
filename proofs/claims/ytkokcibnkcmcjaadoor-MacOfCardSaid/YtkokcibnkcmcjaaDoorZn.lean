/- What the claim leans on, text Zn: Sh15. No condition beyond what each lemma states. -/
import Derived.Test.YtkokcibnkcmcjaaDoorZd
import Derived.Test.YtkokcibnkcmcjaaDoorZt
import Derived.Test.YtkokcibnkcmcjaaDoorZi
import Derived.Test.YtkokcibnkcmcjaaDoorZm

/- MacOf returns true. Printed by wp.py. -/
namespace Go.Proofs.YtkokcibnkcmcjaaDoor
open Go Go.RowKit
set_option linter.unusedVariables false
set_option linter.unusedSimpArgs false
set_option maxRecDepth 100000
set_option maxHeartbeats 4000000
attribute [local irreducible] inR VC RG VCn sq inS lq nq jq Wk
attribute [local irreducible] sha stH stW abs8 hm
attribute [local simp] sha_length stC_len hm_length


namespace UmacOf_fc
theorem U : type_of% @stC_len ∧ type_of% @sha_take ∧ type_of% @sha_length ∧ type_of% (@drop_rep UInt8) ∧ type_of% (@drop_rep D) ∧ type_of% (@List.take_zero UInt8) ∧ type_of% (@List.take_zero D) ∧ type_of% @padK_len ∧ type_of% @hm_length ∧ type_of% @hm_take := ⟨@stC_len, @sha_take, @sha_length, (@drop_rep UInt8), (@drop_rep D), (@List.take_zero UInt8), (@List.take_zero D), @padK_len, @hm_length, @hm_take⟩
end UmacOf_fc
open UmacOf_fc
theorem macOf_fc (lk : List UInt8) (ls : List (List UInt8)) : FC Tryd.prog GS 10 [.rob lk, .rof 1 ls.length (fun i _ => .rob (ls.getD i []))] (.bool true) none := by
  refine fi_ 56 [4] ti_eq gpS Tryd.func10 (fun C hE hm hP hrc hrn => ?_)
  have hfl := fewL_flat ls 8 200
  have hfn := fewL_len ls 8 200
  have few := Few_fc ls 8 200 (by decide) (by decide)
  have all := All_fc (fewL ls 8 200) (by omega) (by omega)
  refine A_ ?_
  obtain ⟨k, hk⟩ : ∃ k, k = List.take (min (lk.length : Int) 200).toNat lk := ⟨_, rfl⟩
  have hk2 : k.length ≤ 200 := by rw [hk, List.length_take]; omega
  have hkl : min (min (lk.length : Int) 200).toNat lk.length = k.length := by rw [hk, List.length_take]
  rw [← hk, hkl, List.take_length]
  clear hk hkl
  have mof := mOf_fc k (fewL ls 8 200) (by omega) (by omega) (by omega)
  have mex := mExtract_fc k (fewL ls 8 200).flatten (by omega) (by omega)
  have rof := rmOf_fc k (fewL ls 8 200).flatten (by omega) (by omega)
  generalize fewL ls 8 200 = ps at *
  first | refine O_ ?_ | refine OD_ hm ?_
  refine G_ 200 hE ?_
  refine rc_ hE hP (few) Tryd.func21 ?_
  refine G_ 200 hE ?_
  first | refine rz ?_ | refine ZD_ ?_
  refine A_ ?_
  first | refine O_ ?_ | refine OD_ hm ?_
  refine G_ 200 hE ?_
  refine rc_ hE hP (all) Tryd.func25 ?_
  refine G_ 200 hE ?_
  first | refine rz ?_ | refine ZD_ ?_
  refine A_ ?_
  first | refine O_ ?_ | refine OD_ hm ?_
  refine G_ 200 hE ?_
  refine rc_ hE hP (mof) Tryd.func36 ?_
  refine G_ 200 hE ?_
  first | refine rz ?_ | refine ZD_ ?_
  refine A_ ?_
  first | refine O_ ?_ | refine OD_ hm ?_
  refine G_ 200 hE ?_
  refine rc_ hE hP (mex) Tryd.func41 ?_
  refine G_ 200 hE ?_
  first | refine rz ?_ | refine ZD_ ?_
  refine A_ ?_
  first | refine O_ ?_ | refine OD_ hm ?_
  refine G_ 200 hE ?_
  refine rc_ hE hP (macs_fc) Tryd.func42 ?_
  refine G_ 1 hE ?_
  refine GT_ hE (rfl) ?_
  refine GT_ hE (rfl) ?_
  refine GT_ hE (rfl) ?_
  refine GT_ hE (rfl) ?_
  refine rct_ hE hP (rof) Tryd.func39 (rfl) ?_
  refine GT_ hE (rfl) ?_
  refine G_ 2 hE ?_
  refine GT_ hE (rfl) ?_
  refine GT_ hE (rfl) ?_
  refine GT_ hE (rfl) ?_
  refine G_ 2 hE ?_
  refine GT_ hE (rfl) ?_
  refine GT_ hE (rfl) ?_
  refine GT_ hE (rfl) ?_
  refine GT_ hE (rfl) ?_
  refine G_ 2 hE ?_
  refine GT_ hE (rfl) ?_
  refine rct_ hE hP (all) Tryd.func25 (rfl) ?_
  refine GT_ hE (rfl) ?_
  refine GT_ hE (rfl) ?_
  refine G_ 200 hE ?_
  first | refine rz ?_ | refine ZD_ ?_
  refine A_ ?_
  exact ret_
end Go.Proofs.YtkokcibnkcmcjaaDoor
