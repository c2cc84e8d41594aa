/- What the claim leans on, text Zs: Sh19. No condition beyond what each lemma states. -/
import Derived.Test.YtkokcibnkcmcjaaDoorZd
import Derived.Test.YtkokcibnkcmcjaaDoorZt
import Derived.Test.YtkokcibnkcmcjaaDoorZm

/- MacDerives returns true. Printed by wp.py. -/
namespace Go.Proofs.YtkokcibnkcmcjaaDoor
open Go Go.RowKit
set_option linter.unusedVariables false
set_option linter.unusedSimpArgs false
set_option maxRecDepth 100000
set_option maxHeartbeats 4000000
attribute [local irreducible] inR VC RG VCn sq inS lq nq jq Wk
attribute [local irreducible] sha stH stW abs8 hm eK p32 e32 lab tls labH
attribute [local simp] sha_length stC_len hm_length p32_len e32_len

theorem hm_big (b m : List UInt8) (h : 64 < b.length) : hm (sha b) m = hm b m := by
  rw [hm_def b (sha b) m (kfit_big h).symm, hm_def (sha b) (sha b) m (kfit_small (by rw [sha_length]; decide)).symm]

theorem mofq_fc (b q k : List UInt8) (h : 64 < b.length) (hb2 : b.length ≤ 200) (hq : sha b = p32 q) : FC Tryd.prog GS 36 [.rob (p32 q), .rof 1 [p32 k].length (fun i _ => .rob ([p32 k].getD i []))] (.aggb (hm b (p32 k))) none := by
  rw [← hm_big b (p32 k) h, hq]
  exact mOf1_fc (p32 q) (p32 k) (by rw [p32_len]; decide) (by rw [p32_len]; decide)

namespace UmacDerives_fc
theorem U : type_of% @stC_len ∧ type_of% @sha_take ∧ type_of% @sha_length ∧ type_of% (@drop_rep UInt8) ∧ type_of% (@drop_rep D) ∧ type_of% (@List.take_zero UInt8) ∧ type_of% (@List.take_zero D) ∧ type_of% @hm_length ∧ type_of% @hm_take ∧ type_of% @p32_take ∧ type_of% @p32_len ∧ type_of% @e32_take ∧ type_of% @e32_len := ⟨@stC_len, @sha_take, @sha_length, (@drop_rep UInt8), (@drop_rep D), (@List.take_zero UInt8), (@List.take_zero D), @hm_length, @hm_take, @p32_take, @p32_len, @e32_take, @e32_len⟩
end UmacDerives_fc
open UmacDerives_fc
theorem macDerives_fc (k lb ls : List UInt8) (hk : k.length = 32) : FC Tryd.prog GS 14 [.aggb k, .rob lb, .str ls] (.bool true) none := by
  refine fi_ 74 [6] ti_eq gpS Tryd.func14 (fun C hE hm hP hrc hrn => ?_)
  obtain ⟨k, rfl⟩ : ∃ q, k = p32 q := ⟨k, p32_of k hk⟩
  clear hk
  obtain ⟨b, hb⟩ : ∃ b, b = List.take (min (lb.length : Int) 200).toNat lb := ⟨_, rfl⟩
  have hb2 : b.length ≤ 200 := by rw [hb, List.length_take]; omega
  obtain ⟨s, hs⟩ : ∃ s, s = List.take (min (ls.length : Int) 100).toNat ls := ⟨_, rfl⟩
  have hs2 : s.length ≤ 100 := by rw [hs, List.length_take]; omega
  have of := Of1_fc b (by omega)
  obtain ⟨q, hq⟩ : ∃ q, sha b = p32 q := ⟨sha b, p32_of (sha b) (sha_length b)⟩
  rw [hq] at of
  refine A_ ?_
  rw [← hb, ← hs]
  clear hb hs
  first | refine O_ ?_ | refine OD_ hm ?_
  refine G_ 200 hE ?_
  refine rc_ hE hP (of) Tryd.func22 ?_
  refine G_ 200 hE ?_
  first | refine rz ?_ | refine ZD_ ?_
  refine A_ ?_
  first | refine O_ ?_ | refine OD_ hm ?_
  refine G_ 200 hE ?_
  refine rc_ hE hP (mDerive_fc k s q (by omega)) Tryd.func48 ?_
  refine G_ 200 hE ?_
  first | refine rz ?_ | refine ZD_ ?_
  refine A_ ?_
  first | refine O_ ?_ | refine OD_ hm ?_
  refine G_ 200 hE ?_
  refine rc_ hE hP (mLabel32_fc k s (p32 q) (by omega) (by rw [p32_len]; decide)) Tryd.func46 ?_
  refine G_ 200 hE ?_
  first | refine rz ?_ | refine ZD_ ?_
  repeat' (first | refine A1_ ?_ | refine C_ hE (fun hc => ?_) (fun hc => ?_) <;> (try (exfalso; omega)))
  · have mofq := mofq_fc b q k (by omega) hb2 hq
    first | refine O_ ?_ | refine OD_ hm ?_
    refine G_ 200 hE ?_
    refine rc_ hE hP (macs_fc) Tryd.func42 ?_
    refine G_ 1 hE ?_
    refine GT_ hE (rfl) ?_
    refine GT_ hE (rfl) ?_
    refine G_ 2 hE ?_
    refine GT_ hE (rfl) ?_
    refine GT_ hE (rfl) ?_
    refine GT_ hE (rfl) ?_
    refine GT_ hE (rfl) ?_
    refine GT_ hE (rfl) ?_
    refine G_ 2 hE ?_
    refine GT_ hE (rfl) ?_
    refine GT_ hE (rfl) ?_
    refine rct_ hE hP (mExtract_fc b (p32 k) (by omega) (by simp)) Tryd.func41 (rfl) ?_
    refine GT_ hE (rfl) ?_
    refine GT_ hE (rfl) ?_
    refine GT_ hE (rfl) ?_
    refine rct_ hE hP (mOf1_fc b (p32 k) (by omega) (by simp)) Tryd.func36 (rfl) ?_
    refine GT_ hE (rfl) ?_
    refine G_ 2 hE ?_
    refine GT_ hE (rfl) ?_
    refine GT_ hE (rfl) ?_
    refine GT_ hE (rfl) ?_
    refine rct_ hE hP (mOf1_fc b (p32 k) (by omega) (by simp)) Tryd.func36 (rfl) ?_
    refine GT_ hE (rfl) ?_
    refine GT_ hE (rfl) ?_
    refine GT_ hE (rfl) ?_
    refine rct_ hE hP (mofq) Tryd.func36 (rfl) ?_
    refine GT_ hE (rfl) ?_
    refine G_ 200 hE ?_
    first | refine rz ?_ | refine ZD_ ?_
    refine A_ ?_
    exact ret_
  · have mofq := mOf1_fc b (p32 k) (by omega) (by simp)
    first | refine O_ ?_ | refine OD_ hm ?_
    refine G_ 200 hE ?_
    refine rc_ hE hP (macs_fc) Tryd.func42 ?_
    refine G_ 1 hE ?_
    refine GT_ hE (rfl) ?_
    refine GT_ hE (rfl) ?_
    refine G_ 2 hE ?_
    refine GT_ hE (rfl) ?_
    refine GT_ hE (rfl) ?_
    refine GT_ hE (rfl) ?_
    refine GT_ hE (rfl) ?_
    refine GT_ hE (rfl) ?_
    refine G_ 2 hE ?_
    refine GT_ hE (rfl) ?_
    refine GT_ hE (rfl) ?_
    refine rct_ hE hP (mExtract_fc b (p32 k) (by omega) (by simp)) Tryd.func41 (rfl) ?_
    refine GT_ hE (rfl) ?_
    refine GT_ hE (rfl) ?_
    refine GT_ hE (rfl) ?_
    refine rct_ hE hP (mOf1_fc b (p32 k) (by omega) (by simp)) Tryd.func36 (rfl) ?_
    refine GT_ hE (rfl) ?_
    refine G_ 2 hE ?_
    refine GT_ hE (rfl) ?_
    refine GT_ hE (rfl) ?_
    refine GT_ hE (rfl) ?_
    refine rct_ hE hP (mOf1_fc b (p32 k) (by omega) (by simp)) Tryd.func36 (rfl) ?_
    refine GT_ hE (rfl) ?_
    refine GT_ hE (rfl) ?_
    refine GT_ hE (rfl) ?_
    refine rct_ hE hP (mofq) Tryd.func36 (rfl) ?_
    refine GT_ hE (rfl) ?_
    refine G_ 200 hE ?_
    first | refine rz ?_ | refine ZD_ ?_
    refine A_ ?_
    exact ret_
end Go.Proofs.YtkokcibnkcmcjaaDoor
