/- What the claim leans on, text Zw: Sh21. No condition beyond what each lemma states. -/
import Derived.Test.YtkokcibnkcmcjaaDoorZd
import Derived.Test.YtkokcibnkcmcjaaDoorZt
import Derived.Test.YtkokcibnkcmcjaaDoorZm

/- MacLabels returns true. Printed by wp.py. -/
namespace Go.Proofs.YtkokcibnkcmcjaaDoor
open Go Go.RowKit
set_option linter.unusedVariables false
set_option linter.unusedSimpArgs false
set_option maxRecDepth 100000
set_option maxHeartbeats 4000000
attribute [local irreducible] inR VC RG VCn sq inS lq nq jq Wk
attribute [local irreducible] sha stH stW abs8 hm eK p32 e32 lab
attribute [local simp] sha_length stC_len hm_length p32_len e32_len

theorem p32_copy (c : List UInt8) : List.take 32 c ++ List.drop (min c.length 32) (List.replicate 32 0) = p32 c := by
  unfold p32
  rw [List.drop_replicate]
  congr 2
  omega
theorem rLabel32_fc (k l c : List UInt8) (hl : l.length ≤ 249) : FC Tryd.prog GS 47 [.str (p32 k), .str l, .str (p32 c), .int .i64 32] (.tup [.str (e32 (p32 k) (lab l (p32 c) 32)), .int .i64 0]) none := by
  have h := rLabel_fc k l (p32 c) 32 hl (by rw [p32_len]; decide) (by decide)
  rw [← e32_def] at h
  exact h
theorem rLabel32Bad_fc (k l c : List UInt8) (hl : 249 < l.length) (hL : l.length ≤ 1000) : FC Tryd.prog GS 47 [.str (p32 k), .str l, .str (p32 c), .int .i64 32] (.tup [.str [], .int .i64 1]) none :=
  rLabelBad_fc (p32 k) l (p32 c) 32 (.inr (.inr (.inl hl))) hL (by rw [p32_len]; decide)
theorem mLabel32Bad_fc (k l c : List UInt8) (hl : 249 < l.length) (hL : l.length ≤ 1000) : FC Tryd.prog GS 46 [.aggb (p32 k), .str l, .rob (p32 c), .int .i64 32] (.tup [.ownb [], .int .i64 1]) none :=
  mLabelBad_fc k l (p32 c) 32 (.inr (.inr (.inl hl))) hL (by rw [p32_len]; decide)

namespace UmDeriveBad_fc
theorem U : type_of% @stC_len ∧ type_of% @sha_take ∧ type_of% @sha_length ∧ type_of% (@drop_rep UInt8) ∧ type_of% (@drop_rep D) ∧ type_of% (@List.take_zero UInt8) ∧ type_of% (@List.take_zero D) ∧ type_of% @hm_length ∧ type_of% @hm_take ∧ type_of% @p32_take ∧ type_of% @p32_len ∧ type_of% @e32_take ∧ type_of% @e32_len := ⟨@stC_len, @sha_take, @sha_length, (@drop_rep UInt8), (@drop_rep D), (@List.take_zero UInt8), (@List.take_zero D), @hm_length, @hm_take, @p32_take, @p32_len, @e32_take, @e32_len⟩
end UmDeriveBad_fc
open UmDeriveBad_fc
theorem mDeriveBad_fc (k l c : List UInt8) (hl : 249 < l.length) (hL : l.length ≤ 1000) : FC Tryd.prog GS 48 [.aggb (p32 k), .str l, .aggb (p32 c)] (.aggb (List.replicate 32 0)) none := by
  refine fic_ 21 ti_eq gpS Tryd.func48 (fun C hE hm hP hrc hrn => ?_)
  refine A_ ?_
  first | refine O_ ?_ | refine OD_ hm ?_
  refine G_ 200 hE ?_
  refine rc_ hE hP (mLabel32Bad_fc k l c hl hL) Tryd.func46 ?_
  refine G_ 200 hE ?_
  first | refine rz ?_ | refine ZD_ ?_
  refine A_ ?_
  exact retc_

theorem macLabels_fc (k l c : List UInt8) (hk : k.length = 32) : FC Tryd.prog GS 13 [.aggb k, .str l, .rob c] (.bool true) none := by
  refine fi_ 107 [6] ti_eq gpS Tryd.func13 (fun C hE hm hP hrc hrn => ?_)
  obtain ⟨k, rfl⟩ : ∃ q, k = p32 q := ⟨k, p32_of k hk⟩
  clear hk
  repeat' (first | refine A1_ ?_ | refine C_ hE (fun hc => ?_) (fun hc => ?_) <;> (try (exfalso; omega)))
  · first | refine O_ ?_ | refine OD_ hm ?_
    refine G_ 200 hE ?_
    refine rc_ hE hP (macs_fc) Tryd.func42 ?_
    refine G_ 200 hE ?_
    first | refine rz ?_ | refine ZD_ ?_
    refine A_ ?_
    exact ret_
  · have hl4 : l.length ≤ 400 := by omega
    have hc4 : c.length ≤ 400 := by omega
    clear hc
    obtain ⟨n, hn, hn2⟩ : ∃ n : Nat, (16 : Int) + (l.length : Int) % 40 = n ∧ n ≤ 8160 := ⟨16 + l.length % 40, by omega, by omega⟩
    rw [hn]
    clear hn
    by_cases hl : l.length ≤ 249
    · by_cases hc9 : c.length ≤ 255
      · first | refine O_ ?_ | refine OD_ hm ?_
        refine G_ 200 hE ?_
        refine rc_ hE hP (mLabel_fc k l c n hl hc9 hn2) Tryd.func46 ?_
        refine G_ 200 hE ?_
        first | refine rz ?_ | refine ZD_ ?_
        refine A_ ?_
        first | refine O_ ?_ | refine OD_ hm ?_
        refine G_ 200 hE ?_
        refine rc_ hE hP (rLabel_fc k l c n hl hc9 hn2) Tryd.func47 ?_
        refine G_ 200 hE ?_
        first | refine rz ?_ | refine ZD_ ?_
        refine A_ ?_
        rw [p32_copy]
        first | refine O_ ?_ | refine OD_ hm ?_
        refine G_ 200 hE ?_
        refine rc_ hE hP (mDerive_fc k l c hl) Tryd.func48 ?_
        refine G_ 200 hE ?_
        first | refine rz ?_ | refine ZD_ ?_
        refine A_ ?_
        first | refine O_ ?_ | refine OD_ hm ?_
        refine G_ 200 hE ?_
        refine rc_ hE hP (rLabel32_fc k l c hl) Tryd.func47 ?_
        refine G_ 200 hE ?_
        first | refine rz ?_ | refine ZD_ ?_
        repeat' (first | refine A1_ ?_ | refine C_ hE (fun hc => ?_) (fun hc => ?_) <;> (try (exfalso; omega)))
        first | refine O_ ?_ | refine OD_ hm ?_
        refine G_ 200 hE ?_
        refine rc_ hE hP (mLabelBad_fc k [] [] 8161 (by decide) (by decide) (by decide)) Tryd.func46 ?_
        refine G_ 200 hE ?_
        first | refine rz ?_ | refine ZD_ ?_
        refine A_ ?_
        first | refine O_ ?_ | refine OD_ hm ?_
        refine G_ 200 hE ?_
        refine rc_ hE hP (mLabelBad_fc k [] [] (-1) (by decide) (by decide) (by decide)) Tryd.func46 ?_
        refine G_ 200 hE ?_
        first | refine rz ?_ | refine ZD_ ?_
        refine A_ ?_
        first | refine O_ ?_ | refine OD_ hm ?_
        refine G_ 200 hE ?_
        refine rc_ hE hP (macs_fc) Tryd.func42 ?_
        refine G_ 200 hE ?_
        first | refine rz ?_ | refine ZD_ ?_
        refine A_ ?_
        exact ret_
      · first | refine O_ ?_ | refine OD_ hm ?_
        refine G_ 200 hE ?_
        refine rc_ hE hP (mLabelBad_fc k l c n (by omega) (by omega) (by omega)) Tryd.func46 ?_
        refine G_ 200 hE ?_
        first | refine rz ?_ | refine ZD_ ?_
        refine A_ ?_
        first | refine O_ ?_ | refine OD_ hm ?_
        refine G_ 200 hE ?_
        refine rc_ hE hP (rLabelBad_fc (p32 k) l c n (by omega) (by omega) (by omega)) Tryd.func47 ?_
        refine G_ 200 hE ?_
        first | refine rz ?_ | refine ZD_ ?_
        refine A_ ?_
        rw [p32_copy]
        first | refine O_ ?_ | refine OD_ hm ?_
        refine G_ 200 hE ?_
        refine rc_ hE hP (mDerive_fc k l c hl) Tryd.func48 ?_
        refine G_ 200 hE ?_
        first | refine rz ?_ | refine ZD_ ?_
        refine A_ ?_
        first | refine O_ ?_ | refine OD_ hm ?_
        refine G_ 200 hE ?_
        refine rc_ hE hP (rLabel32_fc k l c hl) Tryd.func47 ?_
        refine G_ 200 hE ?_
        first | refine rz ?_ | refine ZD_ ?_
        repeat' (first | refine A1_ ?_ | refine C_ hE (fun hc => ?_) (fun hc => ?_) <;> (try (exfalso; omega)))
        first | refine O_ ?_ | refine OD_ hm ?_
        refine G_ 200 hE ?_
        refine rc_ hE hP (mLabelBad_fc k [] [] 8161 (by decide) (by decide) (by decide)) Tryd.func46 ?_
        refine G_ 200 hE ?_
        first | refine rz ?_ | refine ZD_ ?_
        refine A_ ?_
        first | refine O_ ?_ | refine OD_ hm ?_
        refine G_ 200 hE ?_
        refine rc_ hE hP (mLabelBad_fc k [] [] (-1) (by decide) (by decide) (by decide)) Tryd.func46 ?_
        refine G_ 200 hE ?_
        first | refine rz ?_ | refine ZD_ ?_
        refine A_ ?_
        first | refine O_ ?_ | refine OD_ hm ?_
        refine G_ 200 hE ?_
        refine rc_ hE hP (macs_fc) Tryd.func42 ?_
        refine G_ 200 hE ?_
        first | refine rz ?_ | refine ZD_ ?_
        refine A_ ?_
        exact ret_
    · first | refine O_ ?_ | refine OD_ hm ?_
      refine G_ 200 hE ?_
      refine rc_ hE hP (mLabelBad_fc k l c n (by omega) (by omega) (by omega)) Tryd.func46 ?_
      refine G_ 200 hE ?_
      first | refine rz ?_ | refine ZD_ ?_
      refine A_ ?_
      first | refine O_ ?_ | refine OD_ hm ?_
      refine G_ 200 hE ?_
      refine rc_ hE hP (rLabelBad_fc (p32 k) l c n (by omega) (by omega) (by omega)) Tryd.func47 ?_
      refine G_ 200 hE ?_
      first | refine rz ?_ | refine ZD_ ?_
      refine A_ ?_
      rw [p32_copy]
      first | refine O_ ?_ | refine OD_ hm ?_
      refine G_ 200 hE ?_
      refine rc_ hE hP (mDeriveBad_fc k l c (by omega) (by omega)) Tryd.func48 ?_
      refine G_ 200 hE ?_
      first | refine rz ?_ | refine ZD_ ?_
      refine A_ ?_
      first | refine O_ ?_ | refine OD_ hm ?_
      refine G_ 200 hE ?_
      refine rc_ hE hP (rLabel32Bad_fc k l c (by omega) (by omega)) Tryd.func47 ?_
      refine G_ 200 hE ?_
      first | refine rz ?_ | refine ZD_ ?_
      repeat' (first | refine A1_ ?_ | refine C_ hE (fun hc => ?_) (fun hc => ?_) <;> (try (exfalso; omega)))
      first | refine O_ ?_ | refine OD_ hm ?_
      refine G_ 200 hE ?_
      refine rc_ hE hP (mLabelBad_fc k [] [] 8161 (by decide) (by decide) (by decide)) Tryd.func46 ?_
      refine G_ 200 hE ?_
      first | refine rz ?_ | refine ZD_ ?_
      refine A_ ?_
      first | refine O_ ?_ | refine OD_ hm ?_
      refine G_ 200 hE ?_
      refine rc_ hE hP (mLabelBad_fc k [] [] (-1) (by decide) (by decide) (by decide)) Tryd.func46 ?_
      refine G_ 200 hE ?_
      first | refine rz ?_ | refine ZD_ ?_
      refine A_ ?_
      first | refine O_ ?_ | refine OD_ hm ?_
      refine G_ 200 hE ?_
      refine rc_ hE hP (macs_fc) Tryd.func42 ?_
      refine G_ 200 hE ?_
      first | refine rz ?_ | refine ZD_ ?_
      refine A_ ?_
      exact ret_
end Go.Proofs.YtkokcibnkcmcjaaDoor
