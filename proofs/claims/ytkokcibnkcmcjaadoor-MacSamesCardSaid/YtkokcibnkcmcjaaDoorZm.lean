/- What the claim leans on, text Zm: Sh12, Sh13, Sh13b, Sh14, Sh16, Sh17, Sh18, Sh20, Sh22. No condition beyond what each lemma states. -/
import Derived.Test.YtkokcibnkcmcjaaDoorZd
import Derived.Test.YtkokcibnkcmcjaaDoorZt
import Derived.Test.YtkokcibnkcmcjaaDoorZf
import Derived.Test.YtkokcibnkcmcjaaDoorZi

/- mac's pad. Printed by wp.py. -/
namespace Go.Proofs.YtkokcibnkcmcjaaDoor
open Go Go.RowKit
set_option linter.unusedVariables false
set_option linter.unusedSimpArgs false
set_option maxRecDepth 100000
set_option maxHeartbeats 4000000
attribute [local irreducible] inR VC RG VCn sq inS lq nq jq Wk
attribute [local irreducible] sha stH stW abs8

/-- A key as long as a block; so many of its bytes put together with a byte. -/
def kz (k : List UInt8) : List UInt8 := k ++ List.replicate (64 - k.length) 0
theorem kz_len {k : List UInt8} (h : k.length ≤ 64) : (kz k).length = 64 := by simp [kz]; omega
def padT (k : List UInt8) (x : UInt8) (i : Nat) : List UInt8 := ((kz k).take i).map (fun b => b ^^^ x) ++ (kz k).drop i
def padK (k : List UInt8) (x : UInt8) : List UInt8 := (kz k).map (fun b => b ^^^ x)
theorem padT_zero (k : List UInt8) (x : UInt8) : padT k x 0 = kz k := by simp [padT]
theorem padT_len (k : List UInt8) (x : UInt8) (i : Nat) (h : k.length ≤ 64) : (padT k x i).length = 64 := by
  have := kz_len h
  simp [padT]
  omega
theorem padT_end (k : List UInt8) (x : UInt8) (h : k.length ≤ 64) : padT k x 64 = padK k x := by
  have := kz_len h
  unfold padT padK
  rw [List.take_of_length_le (by omega), List.drop_of_length_le (by omega), List.append_nil]
theorem padT_set (k : List UInt8) (x : UInt8) {i : Nat} (h : k.length ≤ 64) (hi : i < 64) : (padT k x i).set i (gb (padT k x i) i ^^^ x) = padT k x (i + 1) := by
  have hk := kz_len h
  have hl : (((kz k).take i).map (fun b => b ^^^ x)).length = i := by simp; omega
  have hd : (kz k).drop i = (kz k)[i]'(by omega) :: (kz k).drop (i + 1) := List.drop_eq_getElem_cons (by omega)
  have hg : gb (padT k x i) i = (kz k)[i]'(by omega) := by
    unfold gb padT
    rw [hd, List.getD_eq_getElem?_getD, List.getElem?_append_right (by omega), hl]
    simp [List.getElem?_eq_getElem (show i < (kz k).length by omega)]
  rw [hg]
  unfold padT
  rw [hd, List.set_append_right _ _ (by omega), hl, Nat.sub_self, List.set_cons_zero, List.take_add_one, List.getElem?_eq_getElem (by omega), List.map_append, List.append_assoc]
  rfl
theorem kz_def (k : List UInt8) : kz k = k ++ List.replicate (64 - k.length) 0 := rfl
theorem padK_def (k : List UInt8) (x : UInt8) : padK k x = (kz k).map (fun b => b ^^^ x) := rfl
attribute [local irreducible] kz padT padK

namespace Upad_fc
theorem U : type_of% @sha_take ∧ type_of% @sha_length ∧ type_of% (@drop_rep UInt8) ∧ type_of% (@drop_rep D) ∧ type_of% (@List.take_zero UInt8) ∧ type_of% (@List.take_zero D) ∧ type_of% @kz_len := ⟨@sha_take, @sha_length, (@drop_rep UInt8), (@drop_rep D), (@List.take_zero UInt8), (@List.take_zero D), @kz_len⟩
end Upad_fc
open Upad_fc
theorem pad_fc (k : List UInt8) (x : UInt8) (hk : k.length ≤ 64) : FC Tryd.prog GS 77 [.rob k, .u8 x] (.ownb (padK k x)) none := by
  refine fi_ 25 [4] ti_eq gpS Tryd.func77 (fun C hE hm hP hrc hrn => ?_)
  have hz := kz_len hk
  refine A_ ?_
  rw [show List.take 64 k ++ List.drop (min k.length 64) (List.replicate 64 0) = kz k by rw [kz_def, List.take_of_length_le hk, Nat.min_eq_left hk, List.drop_replicate], ← padT_zero k x]
  refine vl (fun i : Nat => ⟨[(1, .u8 x), (5, .sl 7 1 0 64), (12, .int .i64 64), (13, .int .i64 i)], [(7, ⟨⟨1, 1, 64⟩, some (.bytes (padT k x i))⟩)], []⟩) (fun i => i ≤ 64) (fun i => 64 - i) 0 ?_ (Nat.zero_le _) (fun i hi => ?_)
  · exact wk_ hrc
  · have hl := padT_len k x i hk
    repeat' (first | refine A1_ ?_ | refine C_ hE (fun hc => ?_) (fun hc => ?_) <;> (try (exfalso; omega)))
    · rw [padT_set k x hk (show i < 64 by omega)]
      refine lq_n (i + 1) ?_ (by omega) (by omega)
      exact wk_ hrc
    · obtain rfl : i = 64 := by omega
      rw [padT_end k x hk] at hl ⊢
      repeat' (first | refine A1_ ?_ | refine C_ hE (fun hc => ?_) (fun hc => ?_) <;> (try (exfalso; omega)))
      exact ret_
end Go.Proofs.YtkokcibnkcmcjaaDoor

/- mac's Of and Extract. Printed by wp.py. -/
namespace Go.Proofs.YtkokcibnkcmcjaaDoor
open Go Go.RowKit
set_option linter.unusedVariables false
set_option linter.unusedSimpArgs false
set_option maxRecDepth 100000
set_option maxHeartbeats 4000000
attribute [local irreducible] inR VC RG VCn sq inS lq nq jq Wk
attribute [local irreducible] sha stH stW abs8

theorem padK_len {k : List UInt8} (x : UInt8) (h : k.length ≤ 64) : (padK k x).length = 64 := by
  have := kz_len h
  unfold padK
  simp [this]
theorem kz_get (k : List UInt8) (i : Nat) (h : i < 64) : (kz k).getD i 0 = if i < k.length then gb k i else 0 := by
  rw [kz_def]
  unfold gb
  split
  · rename_i hi
    rw [List.getD_eq_getElem?_getD, List.getElem?_append_left hi, List.getD_eq_getElem?_getD]
  · rename_i hi
    rw [List.getD_eq_getElem?_getD, List.getElem?_append_right (by omega), List.getElem?_replicate]
    split <;> rfl
theorem padK_get (k : List UInt8) (x : UInt8) (i : Nat) (hk : k.length ≤ 64) (h : i < 64) : (padK k x).take (i + 1) = (padK k x).take i ++ [(if i < k.length then gb k i else 0) ^^^ x] := by
  have hl := padK_len x hk
  have hz := kz_len hk
  rw [List.take_add_one, List.getElem?_eq_getElem (by omega), ← kz_get k i h, List.getD_eq_getElem?_getD, List.getElem?_eq_getElem (by omega)]
  congr 1
  have e : (padK k x)[i]'(by omega) = ((kz k).map (fun b => b ^^^ x))[i]'(by simp; omega) := by
    congr 1
  rw [e, List.getElem_map, Option.toList_some, Option.getD_some]
theorem padK_tl (k : List UInt8) (x : UInt8) (i : Nat) (hk : k.length ≤ 64) (h : i ≤ 64) : ((padK k x).take i).length = i := by
  have hl := padK_len x hk
  rw [List.length_take]
  omega

/-- A key that fits a block; a mark by it. -/
def kfit (k : List UInt8) : List UInt8 := if 64 < k.length then sha k else k
def hm (k m : List UInt8) : List UInt8 := sha (padK (kfit k) 92 ++ sha (padK (kfit k) 54 ++ m))
theorem kfit_big {k : List UInt8} (h : 64 < k.length) : kfit k = sha k := if_pos h
theorem kfit_small {k : List UInt8} (h : ¬64 < k.length) : kfit k = k := if_neg h
theorem kfit_le (k : List UInt8) : (kfit k).length ≤ 64 := by
  unfold kfit
  split
  · rw [sha_length]; decide
  · omega
theorem hm_length (k m : List UInt8) : (hm k m).length = 32 := sha_length _
theorem hm_def (k q m : List UInt8) (h : q = kfit k) : hm k m = sha (padK q 92 ++ sha (padK q 54 ++ m)) := by subst h; rfl
attribute [local simp] sha_length stC_len

namespace UmOf_fc
theorem U : type_of% @stC_len ∧ type_of% @sha_take ∧ type_of% @sha_length ∧ type_of% (@drop_rep UInt8) ∧ type_of% (@drop_rep D) ∧ type_of% (@List.take_zero UInt8) ∧ type_of% (@List.take_zero D) ∧ type_of% @padK_len := ⟨@stC_len, @sha_take, @sha_length, (@drop_rep UInt8), (@drop_rep D), (@List.take_zero UInt8), (@List.take_zero D), @padK_len⟩
end UmOf_fc
open UmOf_fc
theorem mOf_fc (k : List UInt8) (ps : List (List UInt8)) (hk : k.length ≤ 10000000) (hn : ps.length ≤ 1000000) (hb : ps.flatten.length ≤ 10000000000) : FC Tryd.prog GS 36 [.rob k, .rof 1 ps.length (fun i _ => .rob (ps.getD i []))] (.aggb (hm k ps.flatten)) none := by
  refine fic_ 31 ti_eq gpS Tryd.func36 (fun C hE hm hP hrc hrn => ?_)
  by_cases hk64 : 64 < k.length
  · have hq := hm_def k (sha k) ps.flatten (by unfold kfit; rw [if_pos hk64])
    have h32 : (sha k).length ≤ 64 := by rw [sha_length]; decide
    have hp1 := padK_len 54 h32
    have hp2 := padK_len 92 h32
    rw [hq]
    clear hq
    repeat' (first | refine A1_ ?_ | refine C_ hE (fun hc => ?_) (fun hc => ?_) <;> (try (exfalso; omega)))
    first | refine O_ ?_ | refine OD_ hm ?_
    refine G_ 200 hE ?_
    refine rc_ hE hP (Of1_fc k (by omega)) Tryd.func22 ?_
    refine G_ 200 hE ?_
    first | refine rz ?_ | refine ZD_ ?_
    refine A_ ?_
    repeat' (first | refine A1_ ?_ | refine C_ hE (fun hc => ?_) (fun hc => ?_) <;> (try (exfalso; omega)))
    first | refine O_ ?_ | refine OD_ hm ?_
    refine G_ 200 hE ?_
    refine rc_ hE hP (New_fc) Tryd.func26 ?_
    refine G_ 200 hE ?_
    first | refine rz ?_ | refine ZD_ ?_
    refine A_ ?_
    first | refine O_ ?_ | refine OD_ hm ?_
    refine G_ 200 hE ?_
    refine rc_ hE hP (pad_fc (sha k) 54 h32) Tryd.func77 ?_
    refine G_ 1 hE ?_
    refine rc_ hE hP (Put1_fc [] (padK (sha k) 54) (by simp; omega)) Tryd.func27 ?_
    refine G_ 200 hE ?_
    first | refine rz ?_ | refine ZD_ ?_
    refine A_ ?_
    first | refine O_ ?_ | refine OD_ hm ?_
    refine G_ 200 hE ?_
    refine rc_ hE hP (Put_fc (padK (sha k) 54) ps hn (by omega)) Tryd.func27 ?_
    refine G_ 200 hE ?_
    first | refine rz ?_ | refine ZD_ ?_
    refine A_ ?_
    first | refine O_ ?_ | refine OD_ hm ?_
    refine G_ 200 hE ?_
    refine rc_ hE hP (Sum_fc (padK (sha k) 54 ++ ps.flatten) (by rw [List.length_append]; omega)) Tryd.func28 ?_
    refine G_ 200 hE ?_
    first | refine rz ?_ | refine ZD_ ?_
    refine A_ ?_
    first | refine O_ ?_ | refine OD_ hm ?_
    refine G_ 200 hE ?_
    refine rc_ hE hP (pad_fc (sha k) 92 h32) Tryd.func77 ?_
    refine G_ 2 hE ?_
    refine rc_ hE hP (Of2_fc (padK (sha k) 92) (sha (padK (sha k) 54 ++ ps.flatten)) (by simp; omega)) Tryd.func22 ?_
    refine G_ 200 hE ?_
    first | refine rz ?_ | refine ZD_ ?_
    refine A_ ?_
    exact retc_
  · have hq := hm_def k k ps.flatten (by unfold kfit; rw [if_neg hk64])
    have hp1 := padK_len 54 (show k.length ≤ 64 by omega)
    have hp2 := padK_len 92 (show k.length ≤ 64 by omega)
    rw [hq]
    clear hq
    repeat' (first | refine A1_ ?_ | refine C_ hE (fun hc => ?_) (fun hc => ?_) <;> (try (exfalso; omega)))
    first | refine O_ ?_ | refine OD_ hm ?_
    refine G_ 200 hE ?_
    refine rc_ hE hP (New_fc) Tryd.func26 ?_
    refine G_ 200 hE ?_
    first | refine rz ?_ | refine ZD_ ?_
    refine A_ ?_
    first | refine O_ ?_ | refine OD_ hm ?_
    refine G_ 200 hE ?_
    refine rc_ hE hP (pad_fc k 54 (by omega)) Tryd.func77 ?_
    refine G_ 1 hE ?_
    refine rc_ hE hP (Put1_fc [] (padK k 54) (by simp; omega)) Tryd.func27 ?_
    refine G_ 200 hE ?_
    first | refine rz ?_ | refine ZD_ ?_
    refine A_ ?_
    first | refine O_ ?_ | refine OD_ hm ?_
    refine G_ 200 hE ?_
    refine rc_ hE hP (Put_fc (padK k 54) ps hn (by omega)) Tryd.func27 ?_
    refine G_ 200 hE ?_
    first | refine rz ?_ | refine ZD_ ?_
    refine A_ ?_
    first | refine O_ ?_ | refine OD_ hm ?_
    refine G_ 200 hE ?_
    refine rc_ hE hP (Sum_fc (padK k 54 ++ ps.flatten) (by rw [List.length_append]; omega)) Tryd.func28 ?_
    refine G_ 200 hE ?_
    first | refine rz ?_ | refine ZD_ ?_
    refine A_ ?_
    first | refine O_ ?_ | refine OD_ hm ?_
    refine G_ 200 hE ?_
    refine rc_ hE hP (pad_fc k 92 (by omega)) Tryd.func77 ?_
    refine G_ 2 hE ?_
    refine rc_ hE hP (Of2_fc (padK k 92) (sha (padK k 54 ++ ps.flatten)) (by simp; omega)) Tryd.func22 ?_
    refine G_ 200 hE ?_
    first | refine rz ?_ | refine ZD_ ?_
    refine A_ ?_
    exact retc_

theorem mOf1_fc (k p : List UInt8) (hk : k.length ≤ 10000000) (hb : p.length ≤ 10000000000) : FC Tryd.prog GS 36 [.rob k, .rof 1 [p].length (fun i _ => .rob ([p].getD i []))] (.aggb (hm k p)) none := by
  have h := mOf_fc k [p] hk (by simp) (by simpa using hb)
  rw [show [p].flatten = p by simp] at h
  exact h
attribute [local simp] hm_length
attribute [local irreducible] hm

end Go.Proofs.YtkokcibnkcmcjaaDoor

/- mac's Extract. Printed by wp.py. -/
namespace Go.Proofs.YtkokcibnkcmcjaaDoor
open Go Go.RowKit
set_option linter.unusedVariables false
set_option linter.unusedSimpArgs false
set_option maxRecDepth 100000
set_option maxHeartbeats 4000000
attribute [local irreducible] inR VC RG VCn sq inS lq nq jq Wk
attribute [local irreducible] sha stH stW abs8 hm
attribute [local simp] hm_length

namespace UmExtract_fc
theorem U : type_of% @stC_len ∧ type_of% @sha_take ∧ type_of% @sha_length ∧ type_of% (@drop_rep UInt8) ∧ type_of% (@drop_rep D) ∧ type_of% (@List.take_zero UInt8) ∧ type_of% (@List.take_zero D) ∧ type_of% @padK_len := ⟨@stC_len, @sha_take, @sha_length, (@drop_rep UInt8), (@drop_rep D), (@List.take_zero UInt8), (@List.take_zero D), @padK_len⟩
end UmExtract_fc
open UmExtract_fc
theorem mExtract_fc (k p : List UInt8) (hk : k.length ≤ 10000000) (hb : p.length ≤ 10000000000) : FC Tryd.prog GS 41 [.rob k, .rob p] (.aggb (hm k p)) none := by
  refine fic_ 9 ti_eq gpS Tryd.func41 (fun C hE hm hP hrc hrn => ?_)
  refine A_ ?_
  first | refine O_ ?_ | refine OD_ hm ?_
  refine G_ 200 hE ?_
  refine rc_ hE hP (mOf1_fc k p hk hb) Tryd.func36 ?_
  refine G_ 200 hE ?_
  first | refine rz ?_ | refine ZD_ ?_
  refine A_ ?_
  exact retc_
end Go.Proofs.YtkokcibnkcmcjaaDoor

/- The reference's mark; macs; Same. Printed by wp.py. -/
namespace Go.Proofs.YtkokcibnkcmcjaaDoor
open Go Go.RowKit
set_option linter.unusedVariables false
set_option linter.unusedSimpArgs false
set_option maxRecDepth 100000
set_option maxHeartbeats 4000000
attribute [local irreducible] inR VC RG VCn sq inS lq nq jq Wk
attribute [local irreducible] sha stH stW abs8

attribute [local simp] sha_length stC_len hm_length

def jefe : List UInt8 := [74, 101, 102, 101]
def want1 : List UInt8 := [119, 104, 97, 116, 32, 100, 111, 32, 121, 97, 32, 119, 97, 110, 116, 32]
def want2 : List UInt8 := [102, 111, 114, 32, 110, 111, 116, 104, 105, 110, 103, 63]
theorem jefe_fit : jefe = kfit jefe := by decide
theorem jefe_in : padK jefe 54 ++ (want1 ++ want2) = [124, 83, 80, 83, 54, 54, 54, 54, 54, 54, 54, 54, 54, 54, 54, 54, 54, 54, 54, 54, 54, 54, 54, 54, 54, 54, 54, 54, 54, 54, 54, 54, 54, 54, 54, 54, 54, 54, 54, 54, 54, 54, 54, 54, 54, 54, 54, 54, 54, 54, 54, 54, 54, 54, 54, 54, 54, 54, 54, 54, 54, 54, 54, 54, 119, 104, 97, 116, 32, 100, 111, 32, 121, 97, 32, 119, 97, 110, 116, 32, 102, 111, 114, 32, 110, 111, 116, 104, 105, 110, 103, 63] := by decide +kernel
theorem jefe_out : padK jefe 92 = [22, 57, 58, 57, 92, 92, 92, 92, 92, 92, 92, 92, 92, 92, 92, 92, 92, 92, 92, 92, 92, 92, 92, 92, 92, 92, 92, 92, 92, 92, 92, 92, 92, 92, 92, 92, 92, 92, 92, 92, 92, 92, 92, 92, 92, 92, 92, 92, 92, 92, 92, 92, 92, 92, 92, 92, 92, 92, 92, 92, 92, 92, 92, 92] := by decide +kernel
theorem jefe_s : shaC [124, 83, 80, 83, 54, 54, 54, 54, 54, 54, 54, 54, 54, 54, 54, 54, 54, 54, 54, 54, 54, 54, 54, 54, 54, 54, 54, 54, 54, 54, 54, 54, 54, 54, 54, 54, 54, 54, 54, 54, 54, 54, 54, 54, 54, 54, 54, 54, 54, 54, 54, 54, 54, 54, 54, 54, 54, 54, 54, 54, 54, 54, 54, 54, 119, 104, 97, 116, 32, 100, 111, 32, 121, 97, 32, 119, 97, 110, 116, 32, 102, 111, 114, 32, 110, 111, 116, 104, 105, 110, 103, 63] = [162, 228, 133, 134, 61, 39, 249, 216, 100, 172, 141, 128, 36, 50, 161, 237, 71, 125, 140, 76, 111, 52, 157, 22, 212, 231, 233, 23, 198, 41, 202, 215] := by decide +kernel
theorem jefe_t : gb (shaC [22, 57, 58, 57, 92, 92, 92, 92, 92, 92, 92, 92, 92, 92, 92, 92, 92, 92, 92, 92, 92, 92, 92, 92, 92, 92, 92, 92, 92, 92, 92, 92, 92, 92, 92, 92, 92, 92, 92, 92, 92, 92, 92, 92, 92, 92, 92, 92, 92, 92, 92, 92, 92, 92, 92, 92, 92, 92, 92, 92, 92, 92, 92, 92, 162, 228, 133, 134, 61, 39, 249, 216, 100, 172, 141, 128, 36, 50, 161, 237, 71, 125, 140, 76, 111, 52, 157, 22, 212, 231, 233, 23, 198, 41, 202, 215]) 0 = 91 ∧ gb (shaC [22, 57, 58, 57, 92, 92, 92, 92, 92, 92, 92, 92, 92, 92, 92, 92, 92, 92, 92, 92, 92, 92, 92, 92, 92, 92, 92, 92, 92, 92, 92, 92, 92, 92, 92, 92, 92, 92, 92, 92, 92, 92, 92, 92, 92, 92, 92, 92, 92, 92, 92, 92, 92, 92, 92, 92, 92, 92, 92, 92, 92, 92, 92, 92, 162, 228, 133, 134, 61, 39, 249, 216, 100, 172, 141, 128, 36, 50, 161, 237, 71, 125, 140, 76, 111, 52, 157, 22, 212, 231, 233, 23, 198, 41, 202, 215]) 1 = 220 ∧ gb (shaC [22, 57, 58, 57, 92, 92, 92, 92, 92, 92, 92, 92, 92, 92, 92, 92, 92, 92, 92, 92, 92, 92, 92, 92, 92, 92, 92, 92, 92, 92, 92, 92, 92, 92, 92, 92, 92, 92, 92, 92, 92, 92, 92, 92, 92, 92, 92, 92, 92, 92, 92, 92, 92, 92, 92, 92, 92, 92, 92, 92, 92, 92, 92, 92, 162, 228, 133, 134, 61, 39, 249, 216, 100, 172, 141, 128, 36, 50, 161, 237, 71, 125, 140, 76, 111, 52, 157, 22, 212, 231, 233, 23, 198, 41, 202, 215]) 31 = 67 := by decide +kernel
theorem jefe_hm : gb (hm jefe (want1 ++ want2)) 0 = 91 ∧ gb (hm jefe (want1 ++ want2)) 1 = 220 ∧ gb (hm jefe (want1 ++ want2)) 31 = 67 := by
  rw [hm_def jefe jefe _ jefe_fit, jefe_in, jefe_out, ← shaC_eq, ← shaC_eq, jefe_s]
  exact jefe_t
theorem jefeS : ∃ S, S = hm jefe (want1 ++ want2) ∧ gb S 0 = 91 ∧ gb S 1 = 220 ∧ gb S 31 = 67 ∧ S.length = 32 := ⟨_, rfl, jefe_hm.1, jefe_hm.2.1, jefe_hm.2.2, hm_length _ _⟩
theorem mOf_jefe (S : List UInt8) (hS : S = hm jefe (want1 ++ want2)) : FC Tryd.prog GS 36 [.rob [74, 101, 102, 101], .rof 1 ([[119, 104, 97, 116, 32, 100, 111, 32, 121, 97, 32, 119, 97, 110, 116, 32], [102, 111, 114, 32, 110, 111, 116, 104, 105, 110, 103, 63]] : List (List UInt8)).length (fun i _ => .rob (([[119, 104, 97, 116, 32, 100, 111, 32, 121, 97, 32, 119, 97, 110, 116, 32], [102, 111, 114, 32, 110, 111, 116, 104, 105, 110, 103, 63]] : List (List UInt8)).getD i []))] (.aggb S) none := by
  subst hS
  have h := mOf_fc jefe [want1, want2] (by decide) (by decide) (by decide)
  rw [show [want1, want2].flatten = want1 ++ want2 by simp] at h
  exact h
attribute [local irreducible] hm kfit kz padK

namespace UrmOf_fc
theorem U : type_of% @stC_len ∧ type_of% @sha_take ∧ type_of% @sha_length ∧ type_of% (@drop_rep UInt8) ∧ type_of% (@drop_rep D) ∧ type_of% (@List.take_zero UInt8) ∧ type_of% (@List.take_zero D) ∧ type_of% @padK_len ∧ type_of% @hm_length := ⟨@stC_len, @sha_take, @sha_length, (@drop_rep UInt8), (@drop_rep D), (@List.take_zero UInt8), (@List.take_zero D), @padK_len, @hm_length⟩
end UrmOf_fc
open UrmOf_fc
theorem rmOf_fc (k m : List UInt8) (hk : k.length ≤ 10000000) (hb : m.length ≤ 10000000000) : FC Tryd.prog GS 39 [.str k, .str m] (.str (hm k m)) none := by
  refine fi_ 44 [4] ti_eq gpS Tryd.func39 (fun C hE hm hP hrc hrn => ?_)
  by_cases hk64 : 64 < k.length
  · have hq := hm_def k (sha k) m (kfit_big hk64).symm
    have hs := sha_length k
    have h32 : (sha k).length ≤ 64 := by omega
    rw [hq]
    clear hq
    repeat' (first | refine A1_ ?_ | refine C_ hE (fun hc => ?_) (fun hc => ?_) <;> (try (exfalso; omega)))
    first | refine O_ ?_ | refine OD_ hm ?_
    refine G_ 200 hE ?_
    refine rc_ hE hP (rSum_fc k (by omega)) Tryd.func24 ?_
    refine G_ 200 hE ?_
    first | refine rz ?_ | refine ZD_ ?_
    refine A_ ?_
    generalize sha k = Q at hs h32 ⊢
    refine VC.weak ?_ (kniln 5 29 1 (c := .bytes []) rfl rfl rfl)
    refine VC.weak ?_ (kniln 6 34 1 (c := .bytes []) rfl rfl rfl)
    refine vl (fun i : Nat => ⟨[(0, .str Q), (1, .str m), (5, .sl 29 (1 + i) 0 ((padK Q 54).take i).length), (6, .sl 34 (1 + i) 0 ((padK Q 92).take i).length), (7, .int .i64 i)], [(29, ⟨⟨1 + i, 1, ((padK Q 54).take i).length⟩, some (.bytes ((padK Q 54).take i))⟩), (34, ⟨⟨1 + i, 1, ((padK Q 92).take i).length⟩, some (.bytes ((padK Q 92).take i))⟩)], []⟩) (fun i => i ≤ 64) (fun i => 64 - i) 0 ?_ (Nat.zero_le _) (fun i hi => ?_)
    · exact wk_ hrc
    · have l1 := padK_tl Q 54 i h32 hi
      have l2 := padK_tl Q 92 i h32 hi
      obtain ⟨E1, hE1⟩ : ∃ E, E = (padK Q 54).take i := ⟨_, rfl⟩
      obtain ⟨E2, hE2⟩ : ∃ E, E = (padK Q 92).take i := ⟨_, rfl⟩
      rw [← hE1] at l1 ⊢
      rw [← hE2] at l2 ⊢
      repeat' (first | refine A1_ ?_ | refine C_ hE (fun hc => ?_) (fun hc => ?_) <;> (try (exfalso; omega)))
      · refine lq_n (i + 1) ?_ (by omega) (by omega)
        rw [padK_get Q 54 i h32 (by omega), padK_get Q 92 i h32 (by omega), if_pos (show i < Q.length by omega), ← hE1, ← hE2, List.length_append, List.length_append]
        exact wk_ hrc
      · refine lq_n (i + 1) ?_ (by omega) (by omega)
        rw [padK_get Q 54 i h32 (by omega), padK_get Q 92 i h32 (by omega), if_neg (show ¬i < Q.length by omega), ← hE1, ← hE2, List.length_append, List.length_append]
        exact wk_ hrc
      · obtain rfl : i = 64 := by omega
        have p1 : (padK Q 54).take 64 = padK Q 54 := List.take_of_length_le (by rw [padK_len 54 h32]; decide)
        have p2 : (padK Q 92).take 64 = padK Q 92 := List.take_of_length_le (by rw [padK_len 92 h32]; decide)
        rw [p1] at hE1
        rw [p2] at hE2
        rw [← hE1, ← hE2]
        clear hE1 hE2 p1 p2
        first | refine O_ ?_ | refine OD_ hm ?_
        refine G_ 200 hE ?_
        refine rc_ hE hP (rSum_fc (E1 ++ m) (by rw [List.length_append]; omega)) Tryd.func24 ?_
        refine G_ 1 hE ?_
        refine rc_ hE hP (rSum_fc (E2 ++ sha (E1 ++ m)) (by rw [List.length_append, sha_length]; omega)) Tryd.func24 ?_
        refine G_ 200 hE ?_
        first | refine rz ?_ | refine ZD_ ?_
        refine A_ ?_
        exact ret_
  · have hq := hm_def k k m (kfit_small hk64).symm
    have h32 : k.length ≤ 64 := by omega
    rw [hq]
    clear hq
    repeat' (first | refine A1_ ?_ | refine C_ hE (fun hc => ?_) (fun hc => ?_) <;> (try (exfalso; omega)))
    refine VC.weak ?_ (kniln 5 29 1 (c := .bytes []) rfl rfl rfl)
    refine VC.weak ?_ (kniln 6 34 1 (c := .bytes []) rfl rfl rfl)
    refine vl (fun i : Nat => ⟨[(0, .str k), (1, .str m), (5, .sl 29 (1 + i) 0 ((padK k 54).take i).length), (6, .sl 34 (1 + i) 0 ((padK k 92).take i).length), (7, .int .i64 i)], [(29, ⟨⟨1 + i, 1, ((padK k 54).take i).length⟩, some (.bytes ((padK k 54).take i))⟩), (34, ⟨⟨1 + i, 1, ((padK k 92).take i).length⟩, some (.bytes ((padK k 92).take i))⟩)], []⟩) (fun i => i ≤ 64) (fun i => 64 - i) 0 ?_ (Nat.zero_le _) (fun i hi => ?_)
    · exact wk_ hrc
    · have l1 := padK_tl k 54 i h32 hi
      have l2 := padK_tl k 92 i h32 hi
      obtain ⟨E1, hE1⟩ : ∃ E, E = (padK k 54).take i := ⟨_, rfl⟩
      obtain ⟨E2, hE2⟩ : ∃ E, E = (padK k 92).take i := ⟨_, rfl⟩
      rw [← hE1] at l1 ⊢
      rw [← hE2] at l2 ⊢
      repeat' (first | refine A1_ ?_ | refine C_ hE (fun hc => ?_) (fun hc => ?_) <;> (try (exfalso; omega)))
      · refine lq_n (i + 1) ?_ (by omega) (by omega)
        rw [padK_get k 54 i h32 (by omega), padK_get k 92 i h32 (by omega), if_pos (show i < k.length by omega), ← hE1, ← hE2, List.length_append, List.length_append]
        exact wk_ hrc
      · refine lq_n (i + 1) ?_ (by omega) (by omega)
        rw [padK_get k 54 i h32 (by omega), padK_get k 92 i h32 (by omega), if_neg (show ¬i < k.length by omega), ← hE1, ← hE2, List.length_append, List.length_append]
        exact wk_ hrc
      · obtain rfl : i = 64 := by omega
        have p1 : (padK k 54).take 64 = padK k 54 := List.take_of_length_le (by rw [padK_len 54 h32]; decide)
        have p2 : (padK k 92).take 64 = padK k 92 := List.take_of_length_le (by rw [padK_len 92 h32]; decide)
        rw [p1] at hE1
        rw [p2] at hE2
        rw [← hE1, ← hE2]
        clear hE1 hE2 p1 p2
        first | refine O_ ?_ | refine OD_ hm ?_
        refine G_ 200 hE ?_
        refine rc_ hE hP (rSum_fc (E1 ++ m) (by rw [List.length_append]; omega)) Tryd.func24 ?_
        refine G_ 1 hE ?_
        refine rc_ hE hP (rSum_fc (E2 ++ sha (E1 ++ m)) (by rw [List.length_append, sha_length]; omega)) Tryd.func24 ?_
        refine G_ 200 hE ?_
        first | refine rz ?_ | refine ZD_ ?_
        refine A_ ?_
        exact ret_

theorem macs_fc  : FC Tryd.prog GS 42 [] (.bool true) none := by
  refine fi_ 23 [0] ti_eq gpS Tryd.func42 (fun C hE hm hP hrc hrn => ?_)
  obtain ⟨S, hS, a1, a2, a3, a4⟩ := jefeS
  refine A_ ?_
  first | refine O_ ?_ | refine OD_ hm ?_
  refine G_ 7 hE ?_
  refine rc_ hE hP (mOf_jefe S hS) Tryd.func36 ?_
  clear hS
  refine G_ 200 hE ?_
  first | refine rz ?_ | refine ZD_ ?_
  rw [a4, drop_rep, List.append_nil]
  refine A_ ?_
  rw [a1, a2, a3]
  exact ret_
theorem hm_take (k m : List UInt8) : List.take 32 (hm k m) = hm k m := List.take_of_length_le (by rw [hm_length]; decide)
end Go.Proofs.YtkokcibnkcmcjaaDoor

/- Expand, of mac and of the reference. Printed by wp.py. -/
namespace Go.Proofs.YtkokcibnkcmcjaaDoor
open Go Go.RowKit
set_option linter.unusedVariables false
set_option linter.unusedSimpArgs false
set_option maxRecDepth 100000
set_option maxHeartbeats 4000000
attribute [local irreducible] inR VC RG VCn sq inS lq nq jq Wk
attribute [local irreducible] sha stH stW abs8 hm
attribute [local simp] sha_length stC_len hm_length

/-- The j-th mark of an expansion; so many of them in a row. -/
def tK (k i : List UInt8) : Nat → List UInt8
  | 0 => []
  | j + 1 => hm k (tK k i j ++ (i ++ [UInt8.ofNat (j + 1)]))
def oK (k i : List UInt8) : Nat → List UInt8
  | 0 => []
  | j + 1 => oK k i j ++ tK k i (j + 1)
theorem tK_succ (k i : List UInt8) (j : Nat) : tK k i (j + 1) = hm k (tK k i j ++ (i ++ [UInt8.ofNat (j + 1)])) := rfl
theorem oK_succ (k i : List UInt8) (j : Nat) : oK k i (j + 1) = oK k i j ++ tK k i (j + 1) := rfl
theorem tK_zero (k i : List UInt8) : tK k i 0 = [] := rfl
theorem oK_zero (k i : List UInt8) : oK k i 0 = [] := rfl
theorem tK_le (k i : List UInt8) (j : Nat) : (tK k i j).length ≤ 32 := by
  cases j with
  | zero => simp [tK]
  | succ j => rw [tK_succ, hm_length]; decide
theorem oK_len (k i : List UInt8) : ∀ j, (oK k i j).length = 32 * j
  | 0 => rfl
  | j + 1 => by rw [oK_succ, List.length_append, oK_len k i j, tK_succ, hm_length]; omega
theorem oK_pre (k i : List UInt8) (n : Nat) : ∀ j d, n ≤ 32 * j → (oK k i (j + d)).take n = (oK k i j).take n
  | j, 0, h => rfl
  | j, d + 1, h => by
    rw [← Nat.add_assoc, oK_succ, List.take_append_of_le_length (by rw [oK_len]; omega), oK_pre k i n j d h]
/-- So many bytes of an expansion. -/
def eK (k i : List UInt8) (n : Nat) : List UInt8 := (oK k i 255).take n
theorem eK_of (k i : List UInt8) (n j : Nat) (h : n ≤ 32 * j) (hj : j ≤ 255) : (oK k i j).take n = eK k i n := by
  unfold eK
  rw [show 255 = j + (255 - j) by omega, oK_pre k i n j _ h]
theorem eK_len (k i : List UInt8) (n : Nat) (h : n ≤ 8160) : (eK k i n).length = n := by
  unfold eK
  rw [List.length_take, oK_len]
  omega
theorem eK_pre (k i : List UInt8) (m n : Nat) (h : m ≤ n) : (eK k i n).take m = eK k i m := by
  unfold eK
  rw [List.take_take, Nat.min_eq_left h]
theorem mOf3_fc (k p q r : List UInt8) (hk : k.length ≤ 10000000) (hb : p.length + (q.length + r.length) ≤ 10000000000) : FC Tryd.prog GS 36 [.rob k, .rof 1 [p, q, r].length (fun i _ => .rob ([p, q, r].getD i []))] (.aggb (hm k (p ++ (q ++ r)))) none := by
  have h := mOf_fc k [p, q, r] hk (by simp) (by simpa using hb)
  rw [show [p, q, r].flatten = p ++ (q ++ r) by simp] at h
  exact h
attribute [local irreducible] tK oK eK

theorem b8_succ (j : Nat) : b8 ((j : Int) + 1) = UInt8.ofNat (j + 1) := by
  unfold b8
  rw [show (((j : Int) + 1) % 256).toNat = (j + 1) % 256 by omega]
  apply UInt8.toNat_inj.1
  simp
theorem u8_succ (j : Nat) : UInt8.ofNat (j + 1) + 1 = UInt8.ofNat (j + 1 + 1) := by
  rw [UInt8.ofNat_add (j + 1) 1]
  rfl

namespace UmExpand_fc
theorem U : type_of% @stC_len ∧ type_of% @sha_take ∧ type_of% @sha_length ∧ type_of% (@drop_rep UInt8) ∧ type_of% (@drop_rep D) ∧ type_of% (@List.take_zero UInt8) ∧ type_of% (@List.take_zero D) ∧ type_of% @hm_length ∧ type_of% @hm_take := ⟨@stC_len, @sha_take, @sha_length, (@drop_rep UInt8), (@drop_rep D), (@List.take_zero UInt8), (@List.take_zero D), @hm_length, @hm_take⟩
end UmExpand_fc
open UmExpand_fc
theorem mExpand_fc (k i : List UInt8) (n : Nat) (hk : k.length = 32) (hi : i.length ≤ 1000000) (hn : n ≤ 8160) : FC Tryd.prog GS 44 [.aggb k, .rob i, .int .i64 n] (.tup [.ownb (eK k i n), .int .i64 0]) none := by
  refine fi_ 38 [6, 7] ti_eq gpS Tryd.func44 (fun C hE hm hP hrc hrn => ?_)
  repeat' (first | refine A1_ ?_ | refine C_ hE (fun hc => ?_) (fun hc => ?_) <;> (try (exfalso; omega)))
  refine VC.weak ?_ (kniln 9 970 1 (c := .bytes []) rfl rfl rfl)
  refine wv_ (sgb_ 9 970 (hl := by exact (rfl))) ?_
  refine VC.weak ?_ (kniln 8 34 1 (c := .bytes []) rfl rfl rfl)
  rw [hk]
  refine vl (fun j : Nat => ⟨[(1, .rob i), (2, .int .i64 n), (3, .ptr 3 1 0), (8, .sl 34 (1 + j) 0 (oK k i j).length), (9, .rob (tK k i j)), (10, .u8 (UInt8.ofNat (j + 1)))], [(3, ⟨⟨1, 1, 32⟩, some (.bytes k)⟩), (34, ⟨⟨1 + j, 1, (oK k i j).length⟩, some (.bytes (oK k i j))⟩)], []⟩) (fun j => j ≤ 255 ∧ 32 * j ≤ n + 31) (fun j => 256 - j) 0 ?_ ⟨Nat.zero_le _, Nat.zero_le _⟩ (fun j hj => ?_)
  · rw [oK_zero, tK_zero]
    exact wk_ hrc
  · have hol := oK_len k i j
    have htl := tK_le k i j
    repeat' (first | refine A1_ ?_ | refine C_ hE (fun hc => ?_) (fun hc => ?_) <;> (try (exfalso; omega)))
    · first | refine O_ ?_ | refine OD_ hm ?_
      refine G_ 200 hE ?_
      refine rc_ hE hP (mOf3_fc k (tK k i j) i [UInt8.ofNat (j + 1)] (by omega) (by simp; omega)) Tryd.func36 ?_
      refine G_ 200 hE ?_
      first | refine rz ?_ | refine ZD_ ?_
      rw [← tK_succ]
      have htl2 : (tK k i (j + 1)).length = 32 := by rw [tK_succ, hm_length]
      refine A_ ?_
      refine lq_n (j + 1) ?_ ⟨by omega, by omega⟩ (by omega)
      refine Wk.trans (sgb_ 9 11 (hl := by exact (by rw [List.drop_zero, List.take_of_length_le (by omega)]))) ?_
      rw [oK_succ, u8_succ, List.length_append, htl2, List.take_of_length_le (show (tK k i (j + 1)).length ≤ 32 by omega)]
      exact wk_ hrc
    · have he := eK_of k i n j (by omega) hj.1
      rw [← he]
      exact ret_

theorem rExpand_fc (k i : List UInt8) (n : Nat) (hk : k.length = 32) (hi : i.length ≤ 1000000) (hn : n ≤ 8160) : FC Tryd.prog GS 45 [.str k, .str i, .int .i64 n] (.tup [.str (eK k i n), .int .i64 0]) none := by
  refine fi_ 39 [6, 7] ti_eq gpS Tryd.func45 (fun C hE hm hP hrc hrn => ?_)
  repeat' (first | refine A1_ ?_ | refine C_ hE (fun hc => ?_) (fun hc => ?_) <;> (try (exfalso; omega)))
  refine vl (fun j : Nat => ⟨[(0, .str k), (1, .str i), (2, .int .i64 n), (8, .str (oK k i j)), (9, .str (tK k i j)), (10, .int .i64 ((j : Int) + 1))], [], []⟩) (fun j => j ≤ 255 ∧ 32 * j ≤ n + 31) (fun j => 256 - j) 0 ?_ ⟨Nat.zero_le _, Nat.zero_le _⟩ (fun j hj => ?_)
  · rw [oK_zero, tK_zero]
    exact wk_ hrc
  · have hol := oK_len k i j
    have htl := tK_le k i j
    repeat' (first | refine A1_ ?_ | refine C_ hE (fun hc => ?_) (fun hc => ?_) <;> (try (exfalso; omega)))
    · first | refine O_ ?_ | refine OD_ hm ?_
      refine G_ 200 hE ?_
      refine rc_ hE hP (rmOf_fc k (tK k i j ++ i ++ [b8 ((j : Int) + 1)]) (by omega) (by simp; omega)) Tryd.func39 ?_
      refine G_ 200 hE ?_
      first | refine rz ?_ | refine ZD_ ?_
      rw [List.append_assoc, b8_succ, ← tK_succ]
      have htl2 : (tK k i (j + 1)).length = 32 := by rw [tK_succ, hm_length]
      refine A_ ?_
      refine lq_n (j + 1) ?_ ⟨by omega, by omega⟩ (by omega)
      rw [oK_succ]
      exact wk_ hrc
    · have he := eK_of k i n j (by omega) hj.1
      repeat' (first | refine A1_ ?_ | refine C_ hE (fun hc => ?_) (fun hc => ?_) <;> (try (exfalso; omega)))
      rw [he]
      exact ret_
end Go.Proofs.YtkokcibnkcmcjaaDoor

/- Expand where it errs; rows of 32 bytes. Printed by wp.py. -/
namespace Go.Proofs.YtkokcibnkcmcjaaDoor
open Go Go.RowKit
set_option linter.unusedVariables false
set_option linter.unusedSimpArgs false
set_option maxRecDepth 100000
set_option maxHeartbeats 4000000
attribute [local irreducible] inR VC RG VCn sq inS lq nq jq Wk
attribute [local irreducible] sha stH stW abs8 hm eK
attribute [local simp] sha_length stC_len hm_length

/-- A row of 32 bytes. -/
def p32 (k : List UInt8) : List UInt8 := k.take 32 ++ List.replicate (32 - k.length) 0
theorem p32_len (k : List UInt8) : (p32 k).length = 32 := by simp [p32]; omega
theorem p32_take (k : List UInt8) : List.take 32 (p32 k) = p32 k := List.take_of_length_le (by rw [p32_len]; decide)
theorem p32_of (k : List UInt8) (h : k.length = 32) : k = p32 k := by
  unfold p32
  rw [List.take_of_length_le (by omega), h]
  simp
attribute [local irreducible] p32
attribute [local simp] p32_len

namespace UmExpandBad_fc
theorem U : type_of% @stC_len ∧ type_of% @sha_take ∧ type_of% @sha_length ∧ type_of% (@drop_rep UInt8) ∧ type_of% (@drop_rep D) ∧ type_of% (@List.take_zero UInt8) ∧ type_of% (@List.take_zero D) ∧ type_of% @hm_length ∧ type_of% @hm_take ∧ type_of% @p32_take ∧ type_of% @p32_len := ⟨@stC_len, @sha_take, @sha_length, (@drop_rep UInt8), (@drop_rep D), (@List.take_zero UInt8), (@List.take_zero D), @hm_length, @hm_take, @p32_take, @p32_len⟩
end UmExpandBad_fc
open UmExpandBad_fc
theorem mExpandBad_fc (k i : List UInt8) (n : Int) (hn : n < 0 ∨ 8160 < n) : FC Tryd.prog GS 44 [.aggb k, .rob i, .int .i64 n] (.tup [.ownb [], .int .i64 1]) none := by
  refine fi_ 38 [6, 7] ti_eq gpS Tryd.func44 (fun C hE hm hP hrc hrn => ?_)
  repeat' (first | refine A1_ ?_ | refine C_ hE (fun hc => ?_) (fun hc => ?_) <;> (try (exfalso; omega)))
  exact ret_

theorem rExpandBad_fc (k i : List UInt8) (n : Int) (hn : n < 0 ∨ 8160 < n) : FC Tryd.prog GS 45 [.str k, .str i, .int .i64 n] (.tup [.str [], .int .i64 1]) none := by
  refine fi_ 39 [6, 7] ti_eq gpS Tryd.func45 (fun C hE hm hP hrc hrn => ?_)
  repeat' (first | refine A1_ ?_ | refine C_ hE (fun hc => ?_) (fun hc => ?_) <;> (try (exfalso; omega)))
  exact ret_

end Go.Proofs.YtkokcibnkcmcjaaDoor

/- mac's Label and Derive. Printed by wp.py. -/
namespace Go.Proofs.YtkokcibnkcmcjaaDoor
open Go Go.RowKit
set_option linter.unusedVariables false
set_option linter.unusedSimpArgs false
set_option maxRecDepth 100000
set_option maxHeartbeats 4000000
attribute [local irreducible] inR VC RG VCn sq inS lq nq jq Wk
attribute [local irreducible] sha stH stW abs8 hm eK p32
attribute [local simp] sha_length stC_len hm_length p32_len

/-- The first 32 bytes of an expansion. -/
def e32 (k i : List UInt8) : List UInt8 := eK k i 32
theorem e32_def (k i : List UInt8) : e32 k i = eK k i 32 := rfl
theorem e32_len (k i : List UInt8) : (e32 k i).length = 32 := eK_len k i 32 (by decide)
theorem e32_take (k i : List UInt8) : List.take 32 (e32 k i) = e32 k i := List.take_of_length_le (by rw [e32_len]; decide)
attribute [local irreducible] e32
attribute [local simp] e32_len

/-- A name with its mark ahead; what a label's expansion is made of. -/
def tls (l : List UInt8) : List UInt8 := 116 :: 108 :: 115 :: 49 :: 51 :: 32 :: l
theorem tls_len (l : List UInt8) : (tls l).length = l.length + 1 + 1 + 1 + 1 + 1 + 1 := rfl
def labH (T : List UInt8) (n : Nat) : List UInt8 := List.take 3 [b8 ((n : Int) / 256), b8 (n : Int), b8 (T.length : Int)] ++ T
theorem labH_len (T : List UInt8) (n : Nat) : (labH T n).length = 3 + T.length := by simp [labH]; omega
def lab (l c : List UInt8) (n : Nat) : List UInt8 := labH (tls l) n ++ [b8 (c.length : Int)] ++ c

namespace UmLabel_fc
theorem U : type_of% @stC_len ∧ type_of% @sha_take ∧ type_of% @sha_length ∧ type_of% (@drop_rep UInt8) ∧ type_of% (@drop_rep D) ∧ type_of% (@List.take_zero UInt8) ∧ type_of% (@List.take_zero D) ∧ type_of% @hm_length ∧ type_of% @hm_take ∧ type_of% @p32_take ∧ type_of% @p32_len ∧ type_of% @e32_take ∧ type_of% @e32_len := ⟨@stC_len, @sha_take, @sha_length, (@drop_rep UInt8), (@drop_rep D), (@List.take_zero UInt8), (@List.take_zero D), @hm_length, @hm_take, @p32_take, @p32_len, @e32_take, @e32_len⟩
end UmLabel_fc
open UmLabel_fc
theorem mLabel_fc (k l c : List UInt8) (n : Nat) (hl : l.length ≤ 249) (hc9 : c.length ≤ 255) (hn : n ≤ 8160) : FC Tryd.prog GS 46 [.aggb (p32 k), .str l, .rob c, .int .i64 n] (.tup [.ownb (eK (p32 k) (lab l c n) n), .int .i64 0]) none := by
  refine fi_ 54 [8, 9] ti_eq gpS Tryd.func46 (fun C hE hm hP hrc hrn => ?_)
  repeat' (first | refine A1_ ?_ | refine C_ hE (fun hc => ?_) (fun hc => ?_) <;> (try (exfalso; omega)))
  obtain ⟨T, hT⟩ : ∃ T, T = tls l := ⟨_, rfl⟩
  have hTl : T.length ≤ 255 := by rw [hT, tls_len]; omega
  have hlab : lab l c n = labH T n ++ [b8 (c.length : Int)] ++ c := by rw [hT]; rfl
  rw [← tls_len, show (116 :: 108 :: 115 :: 49 :: 51 :: 32 :: l) = tls l from rfl, ← hT, show List.take 3 [b8 ((n : Int) / 256), b8 (n : Int), b8 (T.length : Int)] ++ T = labH T n from rfl, ← labH_len T n, hlab]
  clear hlab hT hc
  have hBl := labH_len T n
  generalize labH T n = B at *
  first | refine O_ ?_ | refine OD_ hm ?_
  refine G_ 200 hE ?_
  refine rc_ hE hP (mExpand_fc (p32 k) (B ++ [b8 (c.length : Int)] ++ c) n (p32_len k) (by simp; omega) hn) Tryd.func44 ?_
  refine G_ 200 hE ?_
  first | refine rz ?_ | refine ZD_ ?_
  refine A_ ?_
  exact ret_
attribute [local irreducible] lab tls labH

theorem mLabel32_fc (k l c : List UInt8) (hl : l.length ≤ 249) (hc9 : c.length ≤ 255) : FC Tryd.prog GS 46 [.aggb (p32 k), .str l, .rob c, .int .i64 32] (.tup [.ownb (e32 (p32 k) (lab l c 32)), .int .i64 0]) none := by
  have h := mLabel_fc k l c 32 hl hc9 (by decide)
  rw [← e32_def] at h
  exact h

theorem mDerive_fc (k l c : List UInt8) (hl : l.length ≤ 249) : FC Tryd.prog GS 48 [.aggb (p32 k), .str l, .aggb (p32 c)] (.aggb (e32 (p32 k) (lab l (p32 c) 32))) none := by
  refine fic_ 21 ti_eq gpS Tryd.func48 (fun C hE hm hP hrc hrn => ?_)
  refine A_ ?_
  first | refine O_ ?_ | refine OD_ hm ?_
  refine G_ 200 hE ?_
  refine rc_ hE hP (mLabel32_fc k l (p32 c) hl (by rw [p32_len]; decide)) Tryd.func46 ?_
  refine G_ 200 hE ?_
  first | refine rz ?_ | refine ZD_ ?_
  refine A_ ?_
  exact retc_
end Go.Proofs.YtkokcibnkcmcjaaDoor

/- Label of the reference, and where Label errs. Printed by wp.py. -/
namespace Go.Proofs.YtkokcibnkcmcjaaDoor
open Go Go.RowKit
set_option linter.unusedVariables false
set_option linter.unusedSimpArgs false
set_option maxRecDepth 100000
set_option maxHeartbeats 4000000
attribute [local irreducible] inR VC RG VCn sq inS lq nq jq Wk
attribute [local irreducible] sha stH stW abs8 hm eK p32 e32
attribute [local simp] sha_length stC_len hm_length p32_len e32_len

namespace UmLabelBad_fc
theorem U : type_of% @stC_len ∧ type_of% @sha_take ∧ type_of% @sha_length ∧ type_of% (@drop_rep UInt8) ∧ type_of% (@drop_rep D) ∧ type_of% (@List.take_zero UInt8) ∧ type_of% (@List.take_zero D) ∧ type_of% @hm_length ∧ type_of% @hm_take ∧ type_of% @p32_take ∧ type_of% @p32_len ∧ type_of% @e32_take ∧ type_of% @e32_len := ⟨@stC_len, @sha_take, @sha_length, (@drop_rep UInt8), (@drop_rep D), (@List.take_zero UInt8), (@List.take_zero D), @hm_length, @hm_take, @p32_take, @p32_len, @e32_take, @e32_len⟩
end UmLabelBad_fc
open UmLabelBad_fc
theorem mLabelBad_fc (k l c : List UInt8) (n : Int) (hb : n < 0 ∨ 8160 < n ∨ 249 < l.length ∨ 255 < c.length) (hL : l.length ≤ 1000) (hC9 : c.length ≤ 1000) : FC Tryd.prog GS 46 [.aggb (p32 k), .str l, .rob c, .int .i64 n] (.tup [.ownb [], .int .i64 1]) none := by
  refine fi_ 54 [8, 9] ti_eq gpS Tryd.func46 (fun C hE hm hP hrc hrn => ?_)
  repeat' (first | refine A1_ ?_ | refine C_ hE (fun hc => ?_) (fun hc => ?_) <;> (try (exfalso; omega)))
  · exact ret_
  all_goals (exfalso; revert hc; simp only [not_and, not_lt]; omega)

theorem rLabelBad_fc (k l c : List UInt8) (n : Int) (hb : n < 0 ∨ 8160 < n ∨ 249 < l.length ∨ 255 < c.length) (hL : l.length ≤ 1000) (hC9 : c.length ≤ 1000) : FC Tryd.prog GS 47 [.str k, .str l, .str c, .int .i64 n] (.tup [.str [], .int .i64 1]) none := by
  refine fi_ 53 [8, 9] ti_eq gpS Tryd.func47 (fun C hE hm hP hrc hrn => ?_)
  repeat' (first | refine A1_ ?_ | refine C_ hE (fun hc => ?_) (fun hc => ?_) <;> (try (exfalso; omega)))
  · exact ret_
  all_goals (exfalso; revert hc; simp only [not_and, not_lt]; omega)

theorem rLabel_fc (k l c : List UInt8) (n : Nat) (hl : l.length ≤ 249) (hc9 : c.length ≤ 255) (hn : n ≤ 8160) : FC Tryd.prog GS 47 [.str (p32 k), .str l, .str c, .int .i64 n] (.tup [.str (eK (p32 k) (lab l c n) n), .int .i64 0]) none := by
  refine fi_ 53 [8, 9] ti_eq gpS Tryd.func47 (fun C hE hm hP hrc hrn => ?_)
  obtain ⟨T, hT⟩ : ∃ T, T = tls l := ⟨_, rfl⟩
  have hTl : T.length ≤ 255 := by rw [hT, tls_len]; omega
  have hlab : lab l c n = [b8 ((n : Int) / 256), b8 (n : Int), b8 (T.length : Int)] ++ T ++ [b8 (c.length : Int)] ++ c := by rw [hT]; rfl
  have hrex := rExpand_fc (p32 k) ([b8 ((n : Int) / 256), b8 (n : Int), b8 (T.length : Int)] ++ T ++ [b8 (c.length : Int)] ++ c) n (p32_len k) (by simp; omega) hn
  rw [hlab]
  repeat' (first | refine A1_ ?_ | refine C_ hE (fun hc => ?_) (fun hc => ?_) <;> (try (exfalso; omega)))
  rw [← tls_len, show (116 :: 108 :: 115 :: 49 :: 51 :: 32 :: l) = tls l from rfl, ← hT]
  clear hlab hT hc
  first | refine O_ ?_ | refine OD_ hm ?_
  refine G_ 200 hE ?_
  refine rc_ hE hP (hrex) Tryd.func45 ?_
  refine G_ 200 hE ?_
  first | refine rz ?_ | refine ZD_ ?_
  refine A_ ?_
  exact ret_
end Go.Proofs.YtkokcibnkcmcjaaDoor

/- The steps of keys, and of the reference. Printed by wp.py. -/
namespace Go.Proofs.YtkokcibnkcmcjaaDoor
open Go Go.RowKit
set_option linter.unusedVariables false
set_option linter.unusedSimpArgs false
set_option maxRecDepth 100000
set_option maxHeartbeats 4000000
attribute [local irreducible] inR VC RG VCn sq inS lq nq jq Wk
attribute [local irreducible] sha stH stW abs8 eK e32 lab
attribute [local simp] sha_length stC_len hm_length p32_len e32_len

/-- 32 noughts. -/
theorem p32_nil' : p32 [] = List.replicate 32 0 := rfl
theorem z_fit : p32 [] = kfit (p32 []) := (kfit_small (by rw [p32_len]; decide)).symm
theorem z_in : padK (p32 []) 54 ++ p32 [] = [54, 54, 54, 54, 54, 54, 54, 54, 54, 54, 54, 54, 54, 54, 54, 54, 54, 54, 54, 54, 54, 54, 54, 54, 54, 54, 54, 54, 54, 54, 54, 54, 54, 54, 54, 54, 54, 54, 54, 54, 54, 54, 54, 54, 54, 54, 54, 54, 54, 54, 54, 54, 54, 54, 54, 54, 54, 54, 54, 54, 54, 54, 54, 54, 0, 0, 0, 0, 0, 0, 0, 0, 0, 0, 0, 0, 0, 0, 0, 0, 0, 0, 0, 0, 0, 0, 0, 0, 0, 0, 0, 0, 0, 0, 0, 0] := by decide +kernel
theorem z_out : padK (p32 []) 92 = [92, 92, 92, 92, 92, 92, 92, 92, 92, 92, 92, 92, 92, 92, 92, 92, 92, 92, 92, 92, 92, 92, 92, 92, 92, 92, 92, 92, 92, 92, 92, 92, 92, 92, 92, 92, 92, 92, 92, 92, 92, 92, 92, 92, 92, 92, 92, 92, 92, 92, 92, 92, 92, 92, 92, 92, 92, 92, 92, 92, 92, 92, 92, 92] := by decide +kernel
theorem z_s : shaC [54, 54, 54, 54, 54, 54, 54, 54, 54, 54, 54, 54, 54, 54, 54, 54, 54, 54, 54, 54, 54, 54, 54, 54, 54, 54, 54, 54, 54, 54, 54, 54, 54, 54, 54, 54, 54, 54, 54, 54, 54, 54, 54, 54, 54, 54, 54, 54, 54, 54, 54, 54, 54, 54, 54, 54, 54, 54, 54, 54, 54, 54, 54, 54, 0, 0, 0, 0, 0, 0, 0, 0, 0, 0, 0, 0, 0, 0, 0, 0, 0, 0, 0, 0, 0, 0, 0, 0, 0, 0, 0, 0, 0, 0, 0, 0] = [211, 102, 185, 155, 77, 102, 30, 19, 48, 79, 191, 249, 235, 225, 7, 150, 103, 248, 194, 3, 110, 134, 4, 170, 223, 104, 76, 231, 26, 88, 248, 154] := by decide +kernel
theorem z_t : gb (shaC [92, 92, 92, 92, 92, 92, 92, 92, 92, 92, 92, 92, 92, 92, 92, 92, 92, 92, 92, 92, 92, 92, 92, 92, 92, 92, 92, 92, 92, 92, 92, 92, 92, 92, 92, 92, 92, 92, 92, 92, 92, 92, 92, 92, 92, 92, 92, 92, 92, 92, 92, 92, 92, 92, 92, 92, 92, 92, 92, 92, 92, 92, 92, 92, 211, 102, 185, 155, 77, 102, 30, 19, 48, 79, 191, 249, 235, 225, 7, 150, 103, 248, 194, 3, 110, 134, 4, 170, 223, 104, 76, 231, 26, 88, 248, 154]) 0 = 51 ∧ gb (shaC [92, 92, 92, 92, 92, 92, 92, 92, 92, 92, 92, 92, 92, 92, 92, 92, 92, 92, 92, 92, 92, 92, 92, 92, 92, 92, 92, 92, 92, 92, 92, 92, 92, 92, 92, 92, 92, 92, 92, 92, 92, 92, 92, 92, 92, 92, 92, 92, 92, 92, 92, 92, 92, 92, 92, 92, 92, 92, 92, 92, 92, 92, 92, 92, 211, 102, 185, 155, 77, 102, 30, 19, 48, 79, 191, 249, 235, 225, 7, 150, 103, 248, 194, 3, 110, 134, 4, 170, 223, 104, 76, 231, 26, 88, 248, 154]) 1 = 173 ∧ gb (shaC [92, 92, 92, 92, 92, 92, 92, 92, 92, 92, 92, 92, 92, 92, 92, 92, 92, 92, 92, 92, 92, 92, 92, 92, 92, 92, 92, 92, 92, 92, 92, 92, 92, 92, 92, 92, 92, 92, 92, 92, 92, 92, 92, 92, 92, 92, 92, 92, 92, 92, 92, 92, 92, 92, 92, 92, 92, 92, 92, 92, 92, 92, 92, 92, 211, 102, 185, 155, 77, 102, 30, 19, 48, 79, 191, 249, 235, 225, 7, 150, 103, 248, 194, 3, 110, 134, 4, 170, 223, 104, 76, 231, 26, 88, 248, 154]) 31 = 42 := by decide +kernel
theorem z_hm : gb (hm (p32 []) (p32 [])) 0 = 51 ∧ gb (hm (p32 []) (p32 [])) 1 = 173 ∧ gb (hm (p32 []) (p32 [])) 31 = 42 := by
  rw [hm_def (p32 []) (p32 []) _ z_fit, z_in, z_out, ← shaC_eq, ← shaC_eq, z_s]
  exact z_t
attribute [local irreducible] hm p32
/-- The sum of nothing, as 32 bytes. -/
theorem noneS : ∃ S, sha [] = p32 S := ⟨sha [], p32_of _ (sha_length _)⟩
theorem hm32 (k m : List UInt8) : ∃ q, hm k m = p32 q := ⟨hm k m, p32_of _ (hm_length _ _)⟩
theorem e32_32 (k m : List UInt8) : ∃ q, e32 k m = p32 q := ⟨e32 k m, p32_of _ (e32_len _ _)⟩
theorem Of0_fc (S : List UInt8) (hS : sha [] = p32 S) : FC Tryd.prog GS 22 [.rof 1 ([] : List (List UInt8)).length (fun i _ => .rob (([] : List (List UInt8)).getD i []))] (.aggb (p32 S)) none := by
  rw [← hS]
  exact Of_fc [] (by decide) (by decide)

/-- The secret behind one. -/
def nxt (k S m : List UInt8) : List UInt8 := hm (e32 (p32 k) (lab [100, 101, 114, 105, 118, 101, 100] (p32 S) 32)) (p32 m)
theorem nxt_def (k S m : List UInt8) : nxt k S m = hm (e32 (p32 k) (lab [100, 101, 114, 105, 118, 101, 100] (p32 S) 32)) (p32 m) := rfl
theorem nxt_len (k S m : List UInt8) : (nxt k S m).length = 32 := hm_length _ _

theorem nxt_take (k S m : List UInt8) : List.take 32 (nxt k S m) = nxt k S m := List.take_of_length_le (by rw [nxt_len]; decide)
attribute [local irreducible] nxt
attribute [local simp] nxt_len

namespace UkNone_fc
theorem U : type_of% @stC_len ∧ type_of% @sha_take ∧ type_of% @sha_length ∧ type_of% (@drop_rep UInt8) ∧ type_of% (@drop_rep D) ∧ type_of% (@List.take_zero UInt8) ∧ type_of% (@List.take_zero D) ∧ type_of% @hm_length ∧ type_of% @hm_take ∧ type_of% @p32_take ∧ type_of% @p32_len ∧ type_of% @e32_take ∧ type_of% @e32_len ∧ type_of% @nxt_len ∧ type_of% @nxt_take := ⟨@stC_len, @sha_take, @sha_length, (@drop_rep UInt8), (@drop_rep D), (@List.take_zero UInt8), (@List.take_zero D), @hm_length, @hm_take, @p32_take, @p32_len, @e32_take, @e32_len, @nxt_len, @nxt_take⟩
end UkNone_fc
open UkNone_fc
theorem kNone_fc (S : List UInt8) (hS : sha [] = p32 S) : FC Tryd.prog GS 85 [] (.aggb (p32 S)) none := by
  refine fic_ 2 ti_eq gpS Tryd.func85 (fun C hE hm hP hrc hrn => ?_)
  refine A_ ?_
  first | refine O_ ?_ | refine OD_ hm ?_
  refine G_ 200 hE ?_
  refine rc_ hE hP (Of0_fc S hS) Tryd.func22 ?_
  refine G_ 200 hE ?_
  first | refine rz ?_ | refine ZD_ ?_
  refine A_ ?_
  exact retc_

theorem exZ_fc (a : List UInt8) : FC Tryd.prog GS 41 [.rob (List.replicate 32 0), .rob (p32 a)] (.aggb (hm (p32 []) (p32 a))) none := by
  rw [← p32_nil']
  exact mExtract_fc (p32 []) (p32 a) (by rw [p32_len]; decide) (by rw [p32_len]; decide)
theorem rmZ_fc (a : List UInt8) : FC Tryd.prog GS 39 [.str (List.replicate 32 0), .str (p32 a)] (.str (hm (p32 []) (p32 a))) none := by
  rw [← p32_nil']
  exact rmOf_fc (p32 []) (p32 a) (by rw [p32_len]; decide) (by rw [p32_len]; decide)
theorem rSum0_fc (S : List UInt8) (hS : sha [] = p32 S) : FC Tryd.prog GS 24 [.str []] (.str (p32 S)) none := by
  rw [← hS]
  exact rSum_fc [] (by decide)
theorem rL32_fc (k l c : List UInt8) (hl : l.length ≤ 249) : FC Tryd.prog GS 47 [.str (p32 k), .str l, .str (p32 c), .int .i64 32] (.tup [.str (e32 (p32 k) (lab l (p32 c) 32)), .int .i64 0]) none := by
  have h := rLabel_fc k l (p32 c) 32 hl (by rw [p32_len]; decide) (by decide)
  rw [← e32_def] at h
  exact h
theorem kEarly_fc (a : List UInt8) : FC Tryd.prog GS 49 [.aggb (p32 a)] (.aggb (hm (p32 []) (p32 a))) none := by
  refine fic_ 6 ti_eq gpS Tryd.func49 (fun C hE hm hP hrc hrn => ?_)
  refine A_ ?_
  first | refine O_ ?_ | refine OD_ hm ?_
  refine G_ 200 hE ?_
  refine rc_ hE hP (exZ_fc a) Tryd.func41 ?_
  refine G_ 200 hE ?_
  first | refine rz ?_ | refine ZD_ ?_
  refine A_ ?_
  exact retc_

theorem kNext_fc (k m S : List UInt8) (hS : sha [] = p32 S) : FC Tryd.prog GS 79 [.aggb (p32 k), .aggb (p32 m)] (.aggb (nxt k S m)) none := by
  refine fic_ 12 ti_eq gpS Tryd.func79 (fun C hE hm hP hrc hrn => ?_)
  rw [nxt_def]
  refine A_ ?_
  first | refine O_ ?_ | refine OD_ hm ?_
  refine G_ 200 hE ?_
  refine rc_ hE hP (kNone_fc S hS) Tryd.func85 ?_
  refine G_ 0 hE ?_
  refine rc_ hE hP (mDerive_fc k [100, 101, 114, 105, 118, 101, 100] S (by decide)) Tryd.func48 ?_
  refine G_ 200 hE ?_
  first | refine rz ?_ | refine ZD_ ?_
  refine A_ ?_
  first | refine O_ ?_ | refine OD_ hm ?_
  refine G_ 200 hE ?_
  refine rc_ hE hP (mExtract_fc (e32 (p32 k) (lab [100, 101, 114, 105, 118, 101, 100] (p32 S) 32)) (p32 m) (by rw [e32_len]; decide) (by rw [p32_len]; decide)) Tryd.func41 ?_
  refine G_ 200 hE ?_
  first | refine rz ?_ | refine ZD_ ?_
  refine A_ ?_
  exact retc_

theorem kHand_fc (k m S : List UInt8) (hS : sha [] = p32 S) : FC Tryd.prog GS 50 [.aggb (p32 k), .aggb (p32 m)] (.aggb (nxt k S m)) none := by
  refine fic_ 8 ti_eq gpS Tryd.func50 (fun C hE hm hP hrc hrn => ?_)
  refine A_ ?_
  first | refine O_ ?_ | refine OD_ hm ?_
  refine G_ 200 hE ?_
  refine rc_ hE hP (kNext_fc k m S hS) Tryd.func79 ?_
  refine G_ 200 hE ?_
  first | refine rz ?_ | refine ZD_ ?_
  refine A_ ?_
  exact retc_

theorem zero_fc  : FC Tryd.prog GS 80 [] (.str (List.replicate 32 0)) none := by
  refine fi_ 3 [0] ti_eq gpS Tryd.func80 (fun C hE hm hP hrc hrn => ?_)
  refine A_ ?_
  exact ret_

theorem rDerive_fc (k l c : List UInt8) (hl : l.length ≤ 249) : FC Tryd.prog GS 81 [.str (p32 k), .str l, .str (p32 c)] (.str (e32 (p32 k) (lab l (p32 c) 32))) none := by
  refine fi_ 20 [6] ti_eq gpS Tryd.func81 (fun C hE hm hP hrc hrn => ?_)
  refine A_ ?_
  first | refine O_ ?_ | refine OD_ hm ?_
  refine G_ 200 hE ?_
  refine rc_ hE hP (rL32_fc k l c hl) Tryd.func47 ?_
  refine G_ 200 hE ?_
  first | refine rz ?_ | refine ZD_ ?_
  repeat' (first | refine A1_ ?_ | refine C_ hE (fun hc => ?_) (fun hc => ?_) <;> (try (exfalso; omega)))
  exact ret_

theorem rEarly_fc (a : List UInt8) : FC Tryd.prog GS 52 [.str (p32 a)] (.str (hm (p32 []) (p32 a))) none := by
  refine fi_ 6 [2] ti_eq gpS Tryd.func52 (fun C hE hm hP hrc hrn => ?_)
  refine A_ ?_
  first | refine O_ ?_ | refine OD_ hm ?_
  refine G_ 200 hE ?_
  refine rc_ hE hP (zero_fc) Tryd.func80 ?_
  refine G_ 1 hE ?_
  refine rc_ hE hP (rmZ_fc a) Tryd.func39 ?_
  refine G_ 200 hE ?_
  first | refine rz ?_ | refine ZD_ ?_
  refine A_ ?_
  exact ret_

theorem rHand_fc (k m S : List UInt8) (hS : sha [] = p32 S) : FC Tryd.prog GS 53 [.str (p32 k), .str (p32 m)] (.str (nxt k S m)) none := by
  refine fi_ 10 [4] ti_eq gpS Tryd.func53 (fun C hE hm hP hrc hrn => ?_)
  rw [nxt_def]
  refine A_ ?_
  first | refine O_ ?_ | refine OD_ hm ?_
  refine G_ 200 hE ?_
  refine rc_ hE hP (rSum0_fc S hS) Tryd.func24 ?_
  refine G_ 0 hE ?_
  refine rc_ hE hP (rDerive_fc k [100, 101, 114, 105, 118, 101, 100] S (by decide)) Tryd.func81 ?_
  refine G_ 1 hE ?_
  refine rc_ hE hP (rmOf_fc (e32 (p32 k) (lab [100, 101, 114, 105, 118, 101, 100] (p32 S) 32)) (p32 m) (by rw [e32_len]; decide) (by rw [p32_len]; decide)) Tryd.func39 ?_
  refine G_ 200 hE ?_
  first | refine rz ?_ | refine ZD_ ?_
  refine A_ ?_
  exact ret_

theorem kMaster_fc (k S : List UInt8) (hS : sha [] = p32 S) : FC Tryd.prog GS 51 [.aggb (p32 k)] (.aggb (nxt k S [])) none := by
  refine fic_ 6 ti_eq gpS Tryd.func51 (fun C hE hm hP hrc hrn => ?_)
  have h := kNext_fc k [] S hS
  rw [p32_nil'] at h
  refine A_ ?_
  first | refine O_ ?_ | refine OD_ hm ?_
  refine G_ 200 hE ?_
  refine rc_ hE hP (h) Tryd.func79 ?_
  refine G_ 200 hE ?_
  first | refine rz ?_ | refine ZD_ ?_
  refine A_ ?_
  exact retc_

theorem rMaster_fc (k S : List UInt8) (hS : sha [] = p32 S) : FC Tryd.prog GS 55 [.str (p32 k)] (.str (nxt k S [])) none := by
  refine fi_ 8 [2] ti_eq gpS Tryd.func55 (fun C hE hm hP hrc hrn => ?_)
  have h := rmOf_fc (e32 (p32 k) (lab [100, 101, 114, 105, 118, 101, 100] (p32 S) 32)) (p32 []) (by rw [e32_len]; decide) (by rw [p32_len]; decide)
  rw [← nxt_def, p32_nil'] at h
  refine A_ ?_
  first | refine O_ ?_ | refine OD_ hm ?_
  refine G_ 200 hE ?_
  refine rc_ hE hP (rSum0_fc S hS) Tryd.func24 ?_
  refine G_ 0 hE ?_
  refine rc_ hE hP (rDerive_fc k [100, 101, 114, 105, 118, 101, 100] S (by decide)) Tryd.func81 ?_
  refine G_ 0 hE ?_
  refine rc_ hE hP (zero_fc) Tryd.func80 ?_
  refine G_ 0 hE ?_
  refine rc_ hE hP (h) Tryd.func39 ?_
  refine G_ 200 hE ?_
  first | refine rz ?_ | refine ZD_ ?_
  refine A_ ?_
  exact ret_

theorem zS : ∃ Q, hm (p32 []) (p32 []) = Q ∧ gb Q 0 = 51 ∧ gb Q 1 = 173 ∧ gb Q 31 = 42 ∧ Q.length = 32 := ⟨_, rfl, z_hm.1, z_hm.2.1, z_hm.2.2, hm_length _ _⟩
theorem kEarly0_fc (Q : List UInt8) (hQ : hm (p32 []) (p32 []) = Q) : FC Tryd.prog GS 49 [.aggb (List.replicate 32 0)] (.aggb Q) none := by
  have h := kEarly_fc []
  rw [hQ, p32_nil'] at h
  exact h
theorem early_fc  : FC Tryd.prog GS 54 [] (.bool true) none := by
  refine fi_ 17 [0] ti_eq gpS Tryd.func54 (fun C hE hm hP hrc hrn => ?_)
  obtain ⟨S, hS, a1, a2, a3, a4⟩ := zS
  have h := kEarly0_fc S hS
  clear hS
  refine A_ ?_
  first | refine O_ ?_ | refine OD_ hm ?_
  refine G_ 200 hE ?_
  refine rc_ hE hP (h) Tryd.func49 ?_
  refine G_ 200 hE ?_
  first | refine rz ?_ | refine ZD_ ?_
  rw [a4, drop_rep, List.append_nil]
  refine A_ ?_
  rw [a1, a2, a3]
  exact ret_
end Go.Proofs.YtkokcibnkcmcjaaDoor
