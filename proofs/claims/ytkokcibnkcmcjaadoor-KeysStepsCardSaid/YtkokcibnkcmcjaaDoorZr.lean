/- What the claim leans on, text Zr: Sh23. No condition beyond what each lemma states. -/
import Derived.Test.YtkokcibnkcmcjaaDoorZd
import Derived.Test.YtkokcibnkcmcjaaDoorZt
import Derived.Test.YtkokcibnkcmcjaaDoorZm

/- KeysSteps returns true. Printed by wp.py. -/
namespace Go.Proofs.YtkokcibnkcmcjaaDoor
open Go Go.RowKit
set_option linter.unusedVariables false
set_option linter.unusedSimpArgs false
set_option maxRecDepth 100000
set_option maxHeartbeats 4000000
attribute [local irreducible] inR VC RG VCn sq inS lq nq jq Wk
attribute [local irreducible] sha stH stW abs8 eK e32 lab nxt hm p32
attribute [local simp] sha_length stC_len hm_length p32_len e32_len nxt_len

namespace UkeysSteps_fc
theorem U : type_of% @stC_len ∧ type_of% @sha_take ∧ type_of% @sha_length ∧ type_of% (@drop_rep UInt8) ∧ type_of% (@drop_rep D) ∧ type_of% (@List.take_zero UInt8) ∧ type_of% (@List.take_zero D) ∧ type_of% @hm_length ∧ type_of% @hm_take ∧ type_of% @p32_take ∧ type_of% @p32_len ∧ type_of% @e32_take ∧ type_of% @e32_len ∧ type_of% @nxt_len ∧ type_of% @nxt_take := ⟨@stC_len, @sha_take, @sha_length, (@drop_rep UInt8), (@drop_rep D), (@List.take_zero UInt8), (@List.take_zero D), @hm_length, @hm_take, @p32_take, @p32_len, @e32_take, @e32_len, @nxt_len, @nxt_take⟩
end UkeysSteps_fc
open UkeysSteps_fc
theorem keysSteps_fc (a b : List UInt8) (ha : a.length = 32) (hb : b.length = 32) : FC Tryd.prog GS 15 [.aggb a, .aggb b] (.bool true) none := by
  refine fi_ 44 [4] ti_eq gpS Tryd.func15 (fun C hE hm hP hrc hrn => ?_)
  obtain ⟨a, rfl⟩ : ∃ q, a = p32 q := ⟨a, p32_of a ha⟩
  obtain ⟨b, rfl⟩ : ∃ q, b = p32 q := ⟨b, p32_of b hb⟩
  clear ha hb
  obtain ⟨S, hS⟩ := noneS
  obtain ⟨E, hEq⟩ := hm32 (p32 []) (p32 a)
  have k1 := kEarly_fc a
  have r1 := rEarly_fc a
  rw [hEq] at k1 r1
  obtain ⟨H, hHq⟩ : ∃ q, nxt E S b = p32 q := ⟨nxt E S b, p32_of _ (nxt_len _ _ _)⟩
  have k2 := kHand_fc E b S hS
  have r2 := rHand_fc E b S hS
  rw [hHq] at k2 r2
  have k3 := kMaster_fc H S hS
  have r3 := rMaster_fc H S hS
  clear hS hEq hHq
  refine A_ ?_
  first | refine O_ ?_ | refine OD_ hm ?_
  refine G_ 200 hE ?_
  refine rc_ hE hP (k1) Tryd.func49 ?_
  refine G_ 200 hE ?_
  first | refine rz ?_ | refine ZD_ ?_
  refine A_ ?_
  first | refine O_ ?_ | refine OD_ hm ?_
  refine G_ 200 hE ?_
  refine rc_ hE hP (k2) Tryd.func50 ?_
  refine G_ 200 hE ?_
  first | refine rz ?_ | refine ZD_ ?_
  refine A_ ?_
  first | refine O_ ?_ | refine OD_ hm ?_
  refine G_ 200 hE ?_
  refine rc_ hE hP (k3) Tryd.func51 ?_
  refine G_ 200 hE ?_
  first | refine rz ?_ | refine ZD_ ?_
  refine A_ ?_
  first | refine O_ ?_ | refine OD_ hm ?_
  refine G_ 200 hE ?_
  refine rc_ hE hP (r1) Tryd.func52 ?_
  refine G_ 200 hE ?_
  first | refine rz ?_ | refine ZD_ ?_
  refine A_ ?_
  first | refine O_ ?_ | refine OD_ hm ?_
  refine G_ 200 hE ?_
  refine rc_ hE hP (r2) Tryd.func53 ?_
  refine G_ 200 hE ?_
  first | refine rz ?_ | refine ZD_ ?_
  refine A_ ?_
  first | refine O_ ?_ | refine OD_ hm ?_
  refine G_ 200 hE ?_
  refine rc_ hE hP (early_fc) Tryd.func54 ?_
  refine G_ 1 hE ?_
  refine GT_ hE (rfl) ?_
  refine GT_ hE (rfl) ?_
  refine GT_ hE (rfl) ?_
  refine GT_ hE (rfl) ?_
  refine G_ 2 hE ?_
  refine GT_ hE (rfl) ?_
  refine GT_ hE (rfl) ?_
  refine GT_ hE (rfl) ?_
  refine GT_ hE (rfl) ?_
  refine G_ 2 hE ?_
  refine GT_ hE (rfl) ?_
  refine GT_ hE (rfl) ?_
  refine GT_ hE (rfl) ?_
  refine rct_ hE hP (r3) Tryd.func55 (rfl) ?_
  refine GT_ hE (rfl) ?_
  refine G_ 200 hE ?_
  first | refine rz ?_ | refine ZD_ ?_
  refine A_ ?_
  exact ret_
end Go.Proofs.YtkokcibnkcmcjaaDoor
