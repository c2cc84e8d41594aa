/- What the claim leans on, text Zz: Sh25. No condition beyond what each lemma states. -/
import Derived.Test.YtkokcibnkcmcjaaDoorZd
import Derived.Test.YtkokcibnkcmcjaaDoorZt
import Derived.Test.YtkokcibnkcmcjaaDoorZy

/- KeysExports returns true. Printed by wp.py. -/
namespace Go.Proofs.YtkokcibnkcmcjaaDoor
open Go Go.RowKit
set_option linter.unusedVariables false
set_option linter.unusedSimpArgs false
set_option maxRecDepth 100000
set_option maxHeartbeats 4000000
attribute [local irreducible] inR VC RG VCn sq inS lq nq jq Wk
attribute [local irreducible] sha stH stW abs8 eK e32 lab nxt hm p32
attribute [local simp] sha_length stC_len hm_length p32_len e32_len nxt_len

theorem export_any (k l c : List UInt8) (n : Int) (hc : c.length ≤ 500) (hn : n ≤ 8160) : ∃ (o : List UInt8) (e : Int),
    FC Tryd.prog GS 59 [.aggb (p32 k), .str l, .rob c, .int .i64 n] (.tup [.ownb o, .int .i64 e]) none ∧
    FC Tryd.prog GS 60 [.str (p32 k), .str l, .str c, .int .i64 n] (.tup [.str o, .int .i64 e]) none ∧ o.length ≤ 8160 := by
  by_cases hl : l.length ≤ 249
  · obtain ⟨S, hS⟩ := noneS
    obtain ⟨cz, hcz⟩ : ∃ q, sha c = p32 q := ⟨sha c, p32_of _ (sha_length _)⟩
    obtain ⟨dz, hdz⟩ := e32_32 (p32 k) (lab l (p32 S) 32)
    by_cases h0 : n < 0
    · exact ⟨[], 1, kExportN_fc k l c S cz dz n hS hcz hdz hl (by omega) h0, rExportN_fc k l c S cz dz n hS hcz hdz hl (by omega) h0, by decide⟩
    · obtain ⟨m, rfl⟩ : ∃ m : Nat, n = m := ⟨n.toNat, by omega⟩
      exact ⟨_, 0, kExport_fc k l c S cz dz m hS hcz hdz hl (by omega) (by omega), rExport_fc k l c S cz dz m hS hcz hdz hl (by omega) (by omega), by rw [eK_len _ _ _ (by omega)]; omega⟩
  · exact ⟨[], 1, kExportL_fc k l c n (by omega), rExportL_fc (p32 k) l c n (by omega), by decide⟩
theorem again_any (k c : List UInt8) (hc : c.length ≤ 500) : ∃ a : List UInt8,
    FC Tryd.prog GS 61 [.aggb (p32 k), .rob c] (.aggb (p32 a)) none ∧
    FC Tryd.prog GS 62 [.str (p32 k), .str c] (.str (p32 a)) none := by
  by_cases h : c.length ≤ 255
  · obtain ⟨a, ha⟩ := e32_32 (p32 k) (lab [114, 101, 115, 117, 109, 112, 116, 105, 111, 110] c 32)
    refine ⟨a, ?_, ?_⟩
    · rw [← ha]; exact kAgain_fc k c h
    · rw [← ha]; exact rAgain_fc k c h
  · refine ⟨[], ?_, ?_⟩
    · rw [p32_nil']; exact kAgainBad_fc k c (by omega) (by omega)
    · rw [p32_nil']; exact rAgainBad_fc k c (by omega) (by omega)

namespace UkeysExports_fc
theorem U : type_of% @stC_len ∧ type_of% @sha_take ∧ type_of% @sha_length ∧ type_of% (@drop_rep UInt8) ∧ type_of% (@drop_rep D) ∧ type_of% (@List.take_zero UInt8) ∧ type_of% (@List.take_zero D) ∧ type_of% @hm_length ∧ type_of% @hm_take ∧ type_of% @p32_take ∧ type_of% @p32_len ∧ type_of% @e32_take ∧ type_of% @e32_len ∧ type_of% @nxt_len ∧ type_of% @nxt_take := ⟨@stC_len, @sha_take, @sha_length, (@drop_rep UInt8), (@drop_rep D), (@List.take_zero UInt8), (@List.take_zero D), @hm_length, @hm_take, @p32_take, @p32_len, @e32_take, @e32_len, @nxt_len, @nxt_take⟩
end UkeysExports_fc
open UkeysExports_fc
theorem keysExports_fc (k l c : List UInt8) (hk : k.length = 32) : FC Tryd.prog GS 17 [.aggb k, .str l, .rob c] (.bool true) none := by
  refine fi_ 69 [6] ti_eq gpS Tryd.func17 (fun C hE hm hP hrc hrn => ?_)
  obtain ⟨k, rfl⟩ : ∃ q, k = p32 q := ⟨k, p32_of k hk⟩
  clear hk
  repeat' (first | refine A1_ ?_ | refine C_ hE (fun hc => ?_) (fun hc => ?_) <;> (try (exfalso; omega)))
  · first | refine O_ ?_ | refine OD_ hm ?_
    refine G_ 200 hE ?_
    refine rc_ hE hP (early_fc) Tryd.func54 ?_
    refine G_ 200 hE ?_
    first | refine rz ?_ | refine ZD_ ?_
    refine A_ ?_
    exact ret_
  · have hc4 : c.length ≤ 500 := by omega
    clear hc
    obtain ⟨n, hn, hn2⟩ : ∃ n : Int, (c.length : Int) * 7 - 5 = n ∧ n ≤ 8160 := ⟨_, rfl, by omega⟩
    rw [hn]
    clear hn
    obtain ⟨o, e, x1, x2, ho⟩ := export_any k l c n hc4 hn2
    obtain ⟨a, g1, g2⟩ := again_any k c hc4
    first | refine O_ ?_ | refine OD_ hm ?_
    refine G_ 200 hE ?_
    refine rc_ hE hP (x1) Tryd.func59 ?_
    refine G_ 200 hE ?_
    first | refine rz ?_ | refine ZD_ ?_
    refine A_ ?_
    first | refine O_ ?_ | refine OD_ hm ?_
    refine G_ 200 hE ?_
    refine rc_ hE hP (x2) Tryd.func60 ?_
    refine G_ 200 hE ?_
    first | refine rz ?_ | refine ZD_ ?_
    refine A_ ?_
    first | refine O_ ?_ | refine OD_ hm ?_
    refine G_ 200 hE ?_
    refine rc_ hE hP (g1) Tryd.func61 ?_
    refine G_ 200 hE ?_
    first | refine rz ?_ | refine ZD_ ?_
    refine A_ ?_
    first | refine O_ ?_ | refine OD_ hm ?_
    refine G_ 200 hE ?_
    refine rc_ hE hP (early_fc) Tryd.func54 ?_
    refine G_ 1 hE ?_
    refine GT_ hE (rfl) ?_
    refine GT_ hE (rfl) ?_
    refine GT_ hE (rfl) ?_
    refine GT_ hE (rfl) ?_
    refine G_ 2 hE ?_
    refine GT_ hE (rfl) ?_
    refine GT_ hE (rfl) ?_
    refine GT_ hE (rfl) ?_
    refine G_ 2 hE ?_
    refine GT_ hE (rfl) ?_
    refine GT_ hE (rfl) ?_
    refine GT_ hE (rfl) ?_
    refine GT_ hE (rfl) ?_
    refine GT_ hE (rfl) ?_
    refine GT_ hE (rfl) ?_
    refine rct_ hE hP (g2) Tryd.func62 (rfl) ?_
    refine GT_ hE (rfl) ?_
    refine G_ 200 hE ?_
    first | refine rz ?_ | refine ZD_ ?_
    refine A_ ?_
    exact ret_
end Go.Proofs.YtkokcibnkcmcjaaDoor
