/- What the claim leans on, text Zu: ShE. No condition beyond what each lemma states. -/
import Derived.Test.YtkokcibnkcmcjaaDoorZd
import Derived.Test.YtkokcibnkcmcjaaDoorZt
import Derived.Test.YtkokcibnkcmcjaaDoorZm

/- MacExpands returns true. Printed by wp.py. -/
namespace Go.Proofs.YtkokcibnkcmcjaaDoor
open Go Go.RowKit
set_option linter.unusedVariables false
set_option linter.unusedSimpArgs false
set_option maxRecDepth 100000
set_option maxHeartbeats 4000000
attribute [local irreducible] inR VC RG VCn sq inS lq nq jq Wk
attribute [local irreducible] sha stH stW abs8 hm eK p32
attribute [local simp] sha_length stC_len hm_length p32_len

namespace UmacExpands_fc
theorem U : type_of% @stC_len ∧ type_of% @sha_take ∧ type_of% @sha_length ∧ type_of% (@drop_rep UInt8) ∧ type_of% (@drop_rep D) ∧ type_of% (@List.take_zero UInt8) ∧ type_of% (@List.take_zero D) ∧ type_of% @hm_length ∧ type_of% @hm_take ∧ type_of% @p32_take ∧ type_of% @p32_len := ⟨@stC_len, @sha_take, @sha_length, (@drop_rep UInt8), (@drop_rep D), (@List.take_zero UInt8), (@List.take_zero D), @hm_length, @hm_take, @p32_take, @p32_len⟩
end UmacExpands_fc
open UmacExpands_fc
theorem macExpands_fc (k li : List UInt8) (n0 : Int) (hk : k.length = 32) : FC Tryd.prog GS 12 [.aggb k, .rob li, .int .i64 n0] (.bool true) none := by
  refine fi_ 81 [6] ti_eq gpS Tryd.func12 (fun C hE hm hP hrc hrn => ?_)
  obtain ⟨k, rfl⟩ : ∃ q, k = p32 q := ⟨k, p32_of k hk⟩
  obtain ⟨i, hi⟩ : ∃ i, i = List.take (min (li.length : Int) 150).toNat li := ⟨_, rfl⟩
  have hi2 : i.length ≤ 150 := by rw [hi, List.length_take]; omega
  repeat' (first | refine A1_ ?_ | refine C_ hE (fun hc => ?_) (fun hc => ?_) <;> (try (exfalso; omega)))
  · obtain ⟨n, hnn⟩ : ∃ n : Nat, 8160 - n0 % 40 = n := ⟨(8160 - n0 % 40).toNat, by omega⟩
    have hn : n ≤ 8160 := by omega
    have hel := eK_len (p32 k) i n hn
    have hep := eK_pre (p32 k) i (n / 2) n (by omega)
    have e9 : List.take ((n : Int) / 2).toNat (eK (p32 k) i n) = eK (p32 k) i (n / 2) := by rw [show ((n : Int) / 2).toNat = n / 2 by omega, hep]
    rw [hnn, ← hi]
    clear hnn hi
    first | refine O_ ?_ | refine OD_ hm ?_
    refine G_ 200 hE ?_
    refine rc_ hE hP (mExpand_fc (p32 k) i n hk (by omega) hn) Tryd.func44 ?_
    refine G_ 200 hE ?_
    first | refine rz ?_ | refine ZD_ ?_
    refine A_ ?_
    first | refine O_ ?_ | refine OD_ hm ?_
    refine G_ 200 hE ?_
    refine rc_ hE hP (rExpand_fc (p32 k) i n hk (by omega) hn) Tryd.func45 ?_
    refine G_ 200 hE ?_
    first | refine rz ?_ | refine ZD_ ?_
    refine A_ ?_
    first | refine O_ ?_ | refine OD_ hm ?_
    refine G_ 200 hE ?_
    refine rc_ hE hP (macs_fc) Tryd.func42 ?_
    refine G_ 200 hE ?_
    first | refine rz ?_ | refine ZD_ ?_
    repeat' (first | refine A1_ ?_ | refine C_ hE (fun hc => ?_) (fun hc => ?_) <;> (try (exfalso; omega)))
    first | refine O_ ?_ | refine OD_ hm ?_
    refine G_ 200 hE ?_
    refine rc_ hE hP (mExpand_fc (p32 k) i (n / 2) hk (by omega) (by omega)) Tryd.func44 ?_
    refine G_ 200 hE ?_
    first | refine rz ?_ | refine ZD_ ?_
    refine A_ ?_
    rw [e9, show decide (eK (p32 k) i (n / 2) = eK (p32 k) i (n / 2)) = true from decide_eq_true rfl]
    exact ret_
  · rw [← hi]
    clear hi
    by_cases hb : n0 < 0 ∨ 8160 < n0
    · first | refine O_ ?_ | refine OD_ hm ?_
      refine G_ 200 hE ?_
      refine rc_ hE hP (mExpandBad_fc (p32 k) i n0 hb) Tryd.func44 ?_
      refine G_ 200 hE ?_
      first | refine rz ?_ | refine ZD_ ?_
      refine A_ ?_
      first | refine O_ ?_ | refine OD_ hm ?_
      refine G_ 200 hE ?_
      refine rc_ hE hP (rExpandBad_fc (p32 k) i n0 hb) Tryd.func45 ?_
      refine G_ 200 hE ?_
      first | refine rz ?_ | refine ZD_ ?_
      refine A_ ?_
      first | refine O_ ?_ | refine OD_ hm ?_
      refine G_ 200 hE ?_
      refine rc_ hE hP (macs_fc) Tryd.func42 ?_
      refine G_ 200 hE ?_
      first | refine rz ?_ | refine ZD_ ?_
      repeat' (first | refine A1_ ?_ | refine C_ hE (fun hc => ?_) (fun hc => ?_) <;> (try (exfalso; omega)))
      exact ret_
    · obtain ⟨n, rfl⟩ : ∃ n : Nat, n0 = n := ⟨n0.toNat, by omega⟩
      have hn : n ≤ 8160 := by omega
      have hel := eK_len (p32 k) i n hn
      have hep := eK_pre (p32 k) i (n / 2) n (by omega)
      have e9 : List.take ((n : Int) / 2).toNat (eK (p32 k) i n) = eK (p32 k) i (n / 2) := by rw [show ((n : Int) / 2).toNat = n / 2 by omega, hep]
      first | refine O_ ?_ | refine OD_ hm ?_
      refine G_ 200 hE ?_
      refine rc_ hE hP (mExpand_fc (p32 k) i n hk (by omega) hn) Tryd.func44 ?_
      refine G_ 200 hE ?_
      first | refine rz ?_ | refine ZD_ ?_
      refine A_ ?_
      first | refine O_ ?_ | refine OD_ hm ?_
      refine G_ 200 hE ?_
      refine rc_ hE hP (rExpand_fc (p32 k) i n hk (by omega) hn) Tryd.func45 ?_
      refine G_ 200 hE ?_
      first | refine rz ?_ | refine ZD_ ?_
      refine A_ ?_
      first | refine O_ ?_ | refine OD_ hm ?_
      refine G_ 200 hE ?_
      refine rc_ hE hP (macs_fc) Tryd.func42 ?_
      refine G_ 200 hE ?_
      first | refine rz ?_ | refine ZD_ ?_
      repeat' (first | refine A1_ ?_ | refine C_ hE (fun hc => ?_) (fun hc => ?_) <;> (try (exfalso; omega)))
      first | refine O_ ?_ | refine OD_ hm ?_
      refine G_ 200 hE ?_
      refine rc_ hE hP (mExpand_fc (p32 k) i (n / 2) hk (by omega) (by omega)) Tryd.func44 ?_
      refine G_ 200 hE ?_
      first | refine rz ?_ | refine ZD_ ?_
      refine A_ ?_
      rw [e9, show decide (eK (p32 k) i (n / 2) = eK (p32 k) i (n / 2)) = true from decide_eq_true rfl]
      exact ret_
end Go.Proofs.YtkokcibnkcmcjaaDoor
