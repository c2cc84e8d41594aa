/- What the claim leans on, text Zqb: Sh26, Sh27, Sh28. No condition beyond what each lemma states. -/
import Derived.Test.YtkokcibnkcmcjaaDoorZd
import Derived.Test.YtkokcibnkcmcjaaDoorZt
import Derived.Test.YtkokcibnkcmcjaaDoorZy
import Derived.Test.YtkokcibnkcmcjaaDoorZqa

/- Finish, Binder and Retried of keys; Finish and Binder of the reference. Printed by wp.py. -/
namespace Go.Proofs.YtkokcibnkcmcjaaDoor
open Go Go.RowKit
set_option linter.unusedVariables false
set_option linter.unusedSimpArgs false
set_option maxRecDepth 100000
set_option maxHeartbeats 4000000
attribute [local irreducible] inR VC RG VCn sq inS lq nq jq Wk
attribute [local irreducible] sha stH stW abs8 eK e32 lab nxt hm p32
attribute [local simp] sha_length stC_len hm_length p32_len e32_len nxt_len

namespace UkFinish_fc
theorem U : type_of% @stC_len ∧ type_of% @sha_take ∧ type_of% @sha_length ∧ type_of% (@drop_rep UInt8) ∧ type_of% (@drop_rep D) ∧ type_of% (@List.take_zero UInt8) ∧ type_of% (@List.take_zero D) ∧ type_of% @hm_length ∧ type_of% @hm_take ∧ type_of% @p32_take ∧ type_of% @p32_len ∧ type_of% @e32_take ∧ type_of% @e32_len ∧ type_of% @nxt_len ∧ type_of% @nxt_take := ⟨@stC_len, @sha_take, @sha_length, (@drop_rep UInt8), (@drop_rep D), (@List.take_zero UInt8), (@List.take_zero D), @hm_length, @hm_take, @p32_take, @p32_len, @e32_take, @e32_len, @nxt_len, @nxt_take⟩
end UkFinish_fc
open UkFinish_fc
theorem kFinish_fc (k m F : List UInt8) (hF : e32 (p32 k) (lab [102, 105, 110, 105, 115, 104, 101, 100] [] 32) = F) (hF9 : F.length = 32) : FC Tryd.prog GS 64 [.aggb (p32 k), .aggb (p32 m)] (.aggb (hm F (p32 m))) none := by
  refine fic_ 16 ti_eq gpS Tryd.func64 (fun C hE hm hP hrc hrn => ?_)
  have h := mLabel32_fc k [102, 105, 110, 105, 115, 104, 101, 100] [] (by decide) (by decide)
  rw [hF] at h
  clear hF
  refine A_ ?_
  first | refine O_ ?_ | refine OD_ hm ?_
  refine G_ 200 hE ?_
  refine rc_ hE hP (h) Tryd.func46 ?_
  refine G_ 200 hE ?_
  first | refine rz ?_ | refine ZD_ ?_
  refine A_ ?_
  first | refine O_ ?_ | refine OD_ hm ?_
  refine G_ 200 hE ?_
  refine rc_ hE hP (mOf1_fc F (p32 m) (by omega) (by rw [p32_len]; decide)) Tryd.func36 ?_
  refine G_ 200 hE ?_
  first | refine rz ?_ | refine ZD_ ?_
  refine A_ ?_
  exact retc_

theorem rFinish_fc (k m F : List UInt8) (hF : e32 (p32 k) (lab [102, 105, 110, 105, 115, 104, 101, 100] [] 32) = F) (hF9 : F.length = 32) : FC Tryd.prog GS 67 [.str (p32 k), .str (p32 m)] (.str (hm F (p32 m))) none := by
  refine fi_ 15 [4] ti_eq gpS Tryd.func67 (fun C hE hm hP hrc hrn => ?_)
  have h := rL32c_fc k [102, 105, 110, 105, 115, 104, 101, 100] [] (by decide) (by decide)
  rw [hF] at h
  clear hF
  refine A_ ?_
  first | refine O_ ?_ | refine OD_ hm ?_
  refine G_ 200 hE ?_
  refine rc_ hE hP (h) Tryd.func47 ?_
  refine G_ 200 hE ?_
  first | refine rz ?_ | refine ZD_ ?_
  refine A_ ?_
  first | refine O_ ?_ | refine OD_ hm ?_
  refine G_ 200 hE ?_
  refine rc_ hE hP (rmOf_fc F (p32 m) (by omega) (by rw [p32_len]; decide)) Tryd.func39 ?_
  refine G_ 200 hE ?_
  first | refine rz ?_ | refine ZD_ ?_
  refine A_ ?_
  exact ret_

theorem kBinder_fc (k m S dz F : List UInt8) (hS : sha [] = p32 S) (hD : e32 (p32 k) (lab [114, 101, 115, 32, 98, 105, 110, 100, 101, 114] (p32 S) 32) = p32 dz) (hF : e32 (p32 dz) (lab [102, 105, 110, 105, 115, 104, 101, 100] [] 32) = F) (hF9 : F.length = 32) : FC Tryd.prog GS 63 [.aggb (p32 k), .aggb (p32 m)] (.aggb (hm F (p32 m))) none := by
  refine fic_ 10 ti_eq gpS Tryd.func63 (fun C hE hm hP hrc hrn => ?_)
  refine A_ ?_
  first | refine O_ ?_ | refine OD_ hm ?_
  refine G_ 200 hE ?_
  refine rc_ hE hP (kNone_fc S hS) Tryd.func85 ?_
  refine G_ 0 hE ?_
  refine rc_ hE hP (mDp_fc k [114, 101, 115, 32, 98, 105, 110, 100, 101, 114] S dz (by decide) hD) Tryd.func48 ?_
  refine G_ 1 hE ?_
  refine rc_ hE hP (kFinish_fc dz m F hF hF9) Tryd.func64 ?_
  refine G_ 200 hE ?_
  first | refine rz ?_ | refine ZD_ ?_
  refine A_ ?_
  exact retc_

theorem rBinder_fc (k m S dz F : List UInt8) (hS : sha [] = p32 S) (hD : e32 (p32 k) (lab [114, 101, 115, 32, 98, 105, 110, 100, 101, 114] (p32 S) 32) = p32 dz) (hF : e32 (p32 dz) (lab [102, 105, 110, 105, 115, 104, 101, 100] [] 32) = F) (hF9 : F.length = 32) : FC Tryd.prog GS 66 [.str (p32 k), .str (p32 m)] (.str (hm F (p32 m))) none := by
  refine fi_ 10 [4] ti_eq gpS Tryd.func66 (fun C hE hm hP hrc hrn => ?_)
  refine A_ ?_
  first | refine O_ ?_ | refine OD_ hm ?_
  refine G_ 200 hE ?_
  refine rc_ hE hP (rSum0_fc S hS) Tryd.func24 ?_
  refine G_ 0 hE ?_
  refine rc_ hE hP (rDp_fc k [114, 101, 115, 32, 98, 105, 110, 100, 101, 114] S dz (by decide) hD) Tryd.func81 ?_
  refine G_ 1 hE ?_
  refine rc_ hE hP (rFinish_fc dz m F hF hF9) Tryd.func67 ?_
  refine G_ 200 hE ?_
  first | refine rz ?_ | refine ZD_ ?_
  refine A_ ?_
  exact ret_

theorem kRetried_fc (m : List UInt8) : FC Tryd.prog GS 69 [.aggb (p32 m)] (.ownb ([254, 0, 0, 32] ++ p32 m)) none := by
  refine fi_ 7 [2] ti_eq gpS Tryd.func69 (fun C hE hm hP hrc hrn => ?_)
  refine A_ ?_
  exact ret_
end Go.Proofs.YtkokcibnkcmcjaaDoor

/- Signed of the reference. Printed by wp.py. -/
namespace Go.Proofs.YtkokcibnkcmcjaaDoor
open Go Go.RowKit
set_option linter.unusedVariables false
set_option linter.unusedSimpArgs false
set_option maxRecDepth 100000
set_option maxHeartbeats 4000000
attribute [local irreducible] inR VC RG VCn sq inS lq nq jq Wk
attribute [local irreducible] sha stH stW abs8 eK e32 lab nxt hm p32
attribute [local simp] sha_length stC_len hm_length p32_len e32_len nxt_len

/-- So many blanks. -/
def spc (n : Nat) : List UInt8 := List.replicate n 32
theorem spc_len (n : Nat) : (spc n).length = n := by simp [spc]
theorem spc_zero : spc 0 = [] := rfl
theorem spc_succ (n : Nat) : spc (n + 1) = spc n ++ [32] := List.replicate_succ'
/-- What a Verify signs. -/
def sgn (s : Bool) (m : List UInt8) : List UInt8 := spc 64 ++ (if s then [84, 76, 83, 32, 49, 46, 51, 44, 32, 115, 101, 114, 118, 101, 114, 32, 67, 101, 114, 116, 105, 102, 105, 99, 97, 116, 101, 86, 101, 114, 105, 102, 121] else [84, 76, 83, 32, 49, 46, 51, 44, 32, 99, 108, 105, 101, 110, 116, 32, 67, 101, 114, 116, 105, 102, 105, 99, 97, 116, 101, 86, 101, 114, 105, 102, 121]) ++ [0] ++ m
theorem sgn_true (m : List UInt8) : sgn true m = spc 64 ++ [84, 76, 83, 32, 49, 46, 51, 44, 32, 115, 101, 114, 118, 101, 114, 32, 67, 101, 114, 116, 105, 102, 105, 99, 97, 116, 101, 86, 101, 114, 105, 102, 121] ++ [0] ++ m := rfl
theorem sgn_false (m : List UInt8) : sgn false m = spc 64 ++ [84, 76, 83, 32, 49, 46, 51, 44, 32, 99, 108, 105, 101, 110, 116, 32, 67, 101, 114, 116, 105, 102, 105, 99, 97, 116, 101, 86, 101, 114, 105, 102, 121] ++ [0] ++ m := rfl
attribute [local irreducible] spc sgn

namespace UrSigned_fc
theorem U : type_of% @stC_len ∧ type_of% @sha_take ∧ type_of% @sha_length ∧ type_of% (@drop_rep UInt8) ∧ type_of% (@drop_rep D) ∧ type_of% (@List.take_zero UInt8) ∧ type_of% (@List.take_zero D) ∧ type_of% @hm_length ∧ type_of% @hm_take ∧ type_of% @p32_take ∧ type_of% @p32_len ∧ type_of% @e32_take ∧ type_of% @e32_len ∧ type_of% @nxt_len ∧ type_of% @nxt_take := ⟨@stC_len, @sha_take, @sha_length, (@drop_rep UInt8), (@drop_rep D), (@List.take_zero UInt8), (@List.take_zero D), @hm_length, @hm_take, @p32_take, @p32_len, @e32_take, @e32_len, @nxt_len, @nxt_take⟩
end UrSigned_fc
open UrSigned_fc
theorem rSigned_fc (s : Bool) (m : List UInt8) : FC Tryd.prog GS 68 [.bool s, .str (p32 m)] (.str (sha (sgn s (p32 m)))) none := by
  refine fi_ 23 [4] ti_eq gpS Tryd.func68 (fun C hE hm hP hrc hrn => ?_)
  refine A_ ?_
  refine vl (fun j : Nat => ⟨[(0, .bool s), (1, .str (p32 m)), (5, .str (spc j)), (6, .int .i64 j)], [], []⟩) (fun j => j ≤ 64) (fun j => 64 - j) 0 ?_ (Nat.zero_le _) (fun j hj => ?_)
  · rw [spc_zero]
    exact wk_ hrc
  · have hl := spc_len j
    repeat' (first | refine A1_ ?_ | refine C_ hE (fun hc => ?_) (fun hc => ?_) <;> (try (exfalso; omega)))
    · refine lq_n (j + 1) ?_ (by omega) (by omega)
      rw [spc_succ]
      exact wk_ hrc
    · obtain rfl : j = 64 := by omega
      obtain rfl : s = true := by first | assumption | (simp_all; done)
      rw [sgn_true]
      first | refine O_ ?_ | refine OD_ hm ?_
      refine G_ 200 hE ?_
      refine rc_ hE hP (rSum_fc (spc 64 ++ [84, 76, 83, 32, 49, 46, 51, 44, 32, 115, 101, 114, 118, 101, 114, 32, 67, 101, 114, 116, 105, 102, 105, 99, 97, 116, 101, 86, 101, 114, 105, 102, 121] ++ [0] ++ p32 m) (by simp; omega)) Tryd.func24 ?_
      refine G_ 200 hE ?_
      first | refine rz ?_ | refine ZD_ ?_
      refine A_ ?_
      exact ret_
    · obtain rfl : j = 64 := by omega
      obtain rfl : s = false := by first | assumption | (simp_all; done)
      rw [sgn_false]
      first | refine O_ ?_ | refine OD_ hm ?_
      refine G_ 200 hE ?_
      refine rc_ hE hP (rSum_fc (spc 64 ++ [84, 76, 83, 32, 49, 46, 51, 44, 32, 99, 108, 105, 101, 110, 116, 32, 67, 101, 114, 116, 105, 102, 105, 99, 97, 116, 101, 86, 101, 114, 105, 102, 121] ++ [0] ++ p32 m) (by simp; omega)) Tryd.func24 ?_
      refine G_ 200 hE ?_
      first | refine rz ?_ | refine ZD_ ?_
      refine A_ ?_
      exact ret_
end Go.Proofs.YtkokcibnkcmcjaaDoor

/- Signed; KeysMarks returns true. Printed by wp.py. -/
namespace Go.Proofs.YtkokcibnkcmcjaaDoor
open Go Go.RowKit
set_option linter.unusedVariables false
set_option linter.unusedSimpArgs false
set_option maxRecDepth 100000
set_option maxHeartbeats 4000000
attribute [local irreducible] inR VC RG VCn sq inS lq nq jq Wk
attribute [local simp] sha_length stC_len hm_length p32_len e32_len nxt_len
theorem rep_spc : FC Tryd.prog GS 86 [.rob [32], .int .i64 64] (.ownb (spc 64)) none := (repeat_fc 32).any
theorem sgn_t (m : List UInt8) : sgn true m = spc 64 ++ ([84, 76, 83, 32, 49, 46, 51, 44, 32, 115, 101, 114, 118, 101, 114, 32, 67, 101, 114, 116, 105, 102, 105, 99, 97, 116, 101, 86, 101, 114, 105, 102, 121, 0] ++ m) := by rw [sgn_true, List.append_assoc, List.append_assoc]; rfl
theorem sgn_f (m : List UInt8) : sgn false m = spc 64 ++ ([84, 76, 83, 32, 49, 46, 51, 44, 32, 99, 108, 105, 101, 110, 116, 32, 67, 101, 114, 116, 105, 102, 105, 99, 97, 116, 101, 86, 101, 114, 105, 102, 121, 0] ++ m) := by rw [sgn_false, List.append_assoc, List.append_assoc]; rfl
attribute [local irreducible] sha stH stW abs8 eK e32 lab nxt hm p32 spc sgn
attribute [local simp] spc_len

namespace UkSigned_fc
theorem U : type_of% @stC_len ∧ type_of% @sha_take ∧ type_of% @sha_length ∧ type_of% (@drop_rep UInt8) ∧ type_of% (@drop_rep D) ∧ type_of% (@List.take_zero UInt8) ∧ type_of% (@List.take_zero D) ∧ type_of% @hm_length ∧ type_of% @hm_take ∧ type_of% @p32_take ∧ type_of% @p32_len ∧ type_of% @e32_take ∧ type_of% @e32_len ∧ type_of% @nxt_len ∧ type_of% @nxt_take := ⟨@stC_len, @sha_take, @sha_length, (@drop_rep UInt8), (@drop_rep D), (@List.take_zero UInt8), (@List.take_zero D), @hm_length, @hm_take, @p32_take, @p32_len, @e32_take, @e32_len, @nxt_len, @nxt_take⟩
end UkSigned_fc
open UkSigned_fc
theorem kSigned_fc (s : Bool) (m : List UInt8) : FC Tryd.prog GS 65 [.bool s, .aggb (p32 m)] (.aggb (sha (sgn s (p32 m)))) none := by
  refine fic_ 16 ti_eq gpS Tryd.func65 (fun C hE hm hP hrc hrn => ?_)
  have hsl := spc_len 64
  cases s
  · rw [sgn_f]
    repeat' (first | refine A1_ ?_ | refine C_ hE (fun hc => ?_) (fun hc => ?_) <;> (try (exfalso; omega)))
    first | refine O_ ?_ | refine OD_ hm ?_
    refine G_ 200 hE ?_
    refine rc_ hE hP (rep_spc) Tryd.func86 ?_
    refine G_ 200 hE ?_
    refine rc_ hE hP (Of3_fc (spc 64) [84, 76, 83, 32, 49, 46, 51, 44, 32, 99, 108, 105, 101, 110, 116, 32, 67, 101, 114, 116, 105, 102, 105, 99, 97, 116, 101, 86, 101, 114, 105, 102, 121, 0] (p32 m) (by simp)) Tryd.func22 ?_
    refine G_ 200 hE ?_
    first | refine rz ?_ | refine ZD_ ?_
    refine A_ ?_
    exact retc_
  · rw [sgn_t]
    repeat' (first | refine A1_ ?_ | refine C_ hE (fun hc => ?_) (fun hc => ?_) <;> (try (exfalso; omega)))
    first | refine O_ ?_ | refine OD_ hm ?_
    refine G_ 200 hE ?_
    refine rc_ hE hP (rep_spc) Tryd.func86 ?_
    refine G_ 200 hE ?_
    refine rc_ hE hP (Of3_fc (spc 64) [84, 76, 83, 32, 49, 46, 51, 44, 32, 115, 101, 114, 118, 101, 114, 32, 67, 101, 114, 116, 105, 102, 105, 99, 97, 116, 101, 86, 101, 114, 105, 102, 121, 0] (p32 m) (by simp)) Tryd.func22 ?_
    refine G_ 200 hE ?_
    first | refine rz ?_ | refine ZD_ ?_
    refine A_ ?_
    exact retc_

theorem keysMarks_fc (k m : List UInt8) (hk : k.length = 32) (hm9 : m.length = 32) : FC Tryd.prog GS 20 [.aggb k, .aggb m] (.bool true) none := by
  refine fi_ 64 [4] ti_eq gpS Tryd.func20 (fun C hE hm hP hrc hrn => ?_)
  obtain ⟨k, rfl⟩ : ∃ q, k = p32 q := ⟨k, p32_of k hk⟩
  obtain ⟨m, rfl⟩ : ∃ q, m = p32 q := ⟨m, p32_of m hm9⟩
  clear hk hm9
  obtain ⟨S, hS⟩ := noneS
  obtain ⟨dz, hdz⟩ := e32_32 (p32 k) (lab [114, 101, 115, 32, 98, 105, 110, 100, 101, 114] (p32 S) 32)
  obtain ⟨F, hF⟩ := e32_32 (p32 dz) (lab [102, 105, 110, 105, 115, 104, 101, 100] [] 32)
  obtain ⟨F2, hF2⟩ := e32_32 (p32 k) (lab [102, 105, 110, 105, 115, 104, 101, 100] [] 32)
  have b1 := kBinder_fc k m S dz (p32 F) hS hdz hF (p32_len _)
  have b2 := rBinder_fc k m S dz (p32 F) hS hdz hF (p32_len _)
  have f1 := kFinish_fc k m (p32 F2) hF2 (p32_len _)
  have f2 := rFinish_fc k m (p32 F2) hF2 (p32_len _)
  have s1 := kSigned_fc true m
  have s2 := kSigned_fc false m
  have s3 := rSigned_fc true m
  have s4 := rSigned_fc false m
  have q1 := hm_length (p32 F) (p32 m)
  have q2 := hm_length (p32 F2) (p32 m)
  have q3 := sha_length (sgn true (p32 m))
  have q4 := sha_length (sgn false (p32 m))
  clear hS hdz hF hF2
  refine A_ ?_
  first | refine O_ ?_ | refine OD_ hm ?_
  refine G_ 200 hE ?_
  refine rc_ hE hP (b1) Tryd.func63 ?_
  refine G_ 200 hE ?_
  refine rc_ hE hP (f1) Tryd.func64 ?_
  refine G_ 200 hE ?_
  first | refine rz ?_ | refine ZD_ ?_
  refine A_ ?_
  first | refine O_ ?_ | refine OD_ hm ?_
  refine G_ 200 hE ?_
  refine rc_ hE hP (s1) Tryd.func65 ?_
  refine G_ 200 hE ?_
  refine rc_ hE hP (s2) Tryd.func65 ?_
  refine G_ 200 hE ?_
  first | refine rz ?_ | refine ZD_ ?_
  refine A_ ?_
  first | refine O_ ?_ | refine OD_ hm ?_
  refine G_ 200 hE ?_
  refine rc_ hE hP (early_fc) Tryd.func54 ?_
  refine G_ 1 hE ?_
  refine GT_ hE (rfl) ?_
  refine GT_ hE (rfl) ?_
  refine GT_ hE (rfl) ?_
  refine GT_ hE (rfl) ?_
  refine rct_ hE hP (b2) Tryd.func66 (rfl) ?_
  refine GT_ hE (rfl) ?_
  refine G_ 2 hE ?_
  refine GT_ hE (rfl) ?_
  refine GT_ hE (rfl) ?_
  refine GT_ hE (rfl) ?_
  refine GT_ hE (rfl) ?_
  refine rct_ hE hP (f2) Tryd.func67 (rfl) ?_
  refine GT_ hE (rfl) ?_
  refine G_ 2 hE ?_
  refine GT_ hE (rfl) ?_
  refine GT_ hE (rfl) ?_
  refine GT_ hE (rfl) ?_
  refine rct_ hE hP (s3) Tryd.func68 (rfl) ?_
  refine GT_ hE (rfl) ?_
  refine G_ 2 hE ?_
  refine GT_ hE (rfl) ?_
  refine GT_ hE (rfl) ?_
  refine GT_ hE (rfl) ?_
  refine rct_ hE hP (s4) Tryd.func68 (rfl) ?_
  refine GT_ hE (rfl) ?_
  refine G_ 2 hE ?_
  refine GT_ hE (rfl) ?_
  refine rct_ hE hP (kRetried_fc m) Tryd.func69 (rfl) ?_
  refine GT_ hE (rfl) ?_
  refine GT_ hE (rfl) ?_
  refine GT_ hE (rfl) ?_
  refine G_ 200 hE ?_
  first | refine rz ?_ | refine ZD_ ?_
  refine A_ ?_
  exact ret_
end Go.Proofs.YtkokcibnkcmcjaaDoor
