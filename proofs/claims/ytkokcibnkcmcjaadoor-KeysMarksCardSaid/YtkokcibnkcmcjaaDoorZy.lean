/- What the claim leans on, text Zy: Sh24. No condition beyond what each lemma states. -/
import Derived.Test.YtkokcibnkcmcjaaDoorZd
import Derived.Test.YtkokcibnkcmcjaaDoorZt
import Derived.Test.YtkokcibnkcmcjaaDoorZm

/- Export and Again, of keys and of the reference. Printed by wp.py. -/
namespace Go.Proofs.YtkokcibnkcmcjaaDoor
open Go Go.RowKit
set_option linter.unusedVariables false
set_option linter.unusedSimpArgs false
set_option maxRecDepth 100000
set_option maxHeartbeats 4000000
attribute [local irreducible] inR VC RG VCn sq inS lq nq jq Wk
attribute [local irreducible] sha stH stW abs8 eK e32 lab nxt hm p32
attribute [local simp] sha_length stC_len hm_length p32_len e32_len nxt_len

theorem Of1p_fc (c cz : List UInt8) (hc : c.length ≤ 100000) (hC : sha c = p32 cz) : FC Tryd.prog GS 22 [.rof 1 [c].length (fun i _ => .rob ([c].getD i []))] (.aggb (p32 cz)) none := by
  rw [← hC]
  exact Of1_fc c (by omega)
theorem rSump_fc (c cz : List UInt8) (hc : c.length ≤ 100000) (hC : sha c = p32 cz) : FC Tryd.prog GS 24 [.str c] (.str (p32 cz)) none := by
  rw [← hC]
  exact rSum_fc c (by omega)
theorem mDp_fc (k l S dz : List UInt8) (hl : l.length ≤ 249) (hD : e32 (p32 k) (lab l (p32 S) 32) = p32 dz) : FC Tryd.prog GS 48 [.aggb (p32 k), .str l, .aggb (p32 S)] (.aggb (p32 dz)) none := by
  rw [← hD]
  exact mDerive_fc k l S hl
theorem rDp_fc (k l S dz : List UInt8) (hl : l.length ≤ 249) (hD : e32 (p32 k) (lab l (p32 S) 32) = p32 dz) : FC Tryd.prog GS 81 [.str (p32 k), .str l, .str (p32 S)] (.str (p32 dz)) none := by
  rw [← hD]
  exact rDerive_fc k l S hl

namespace UkExport_fc
theorem U : type_of% @stC_len ∧ type_of% @sha_take ∧ type_of% @sha_length ∧ type_of% (@drop_rep UInt8) ∧ type_of% (@drop_rep D) ∧ type_of% (@List.take_zero UInt8) ∧ type_of% (@List.take_zero D) ∧ type_of% @hm_length ∧ type_of% @hm_take ∧ type_of% @p32_take ∧ type_of% @p32_len ∧ type_of% @e32_take ∧ type_of% @e32_len ∧ type_of% @nxt_len ∧ type_of% @nxt_take := ⟨@stC_len, @sha_take, @sha_length, (@drop_rep UInt8), (@drop_rep D), (@List.take_zero UInt8), (@List.take_zero D), @hm_length, @hm_take, @p32_take, @p32_len, @e32_take, @e32_len, @nxt_len, @nxt_take⟩
end UkExport_fc
open UkExport_fc
theorem kExport_fc (k l c S cz dz : List UInt8) (n : Nat) (hS : sha [] = p32 S) (hC : sha c = p32 cz) (hD : e32 (p32 k) (lab l (p32 S) 32) = p32 dz) (hl : l.length ≤ 249) (hc9 : c.length ≤ 100000) (hn : n ≤ 8160) : FC Tryd.prog GS 59 [.aggb (p32 k), .str l, .rob c, .int .i64 n] (.tup [.ownb (eK (p32 dz) (lab [101, 120, 112, 111, 114, 116, 101, 114] (p32 cz) n) n), .int .i64 0]) none := by
  refine fi_ 26 [8, 9] ti_eq gpS Tryd.func59 (fun C hE hm hP hrc hrn => ?_)
  repeat' (first | refine A1_ ?_ | refine C_ hE (fun hc => ?_) (fun hc => ?_) <;> (try (exfalso; omega)))
  first | refine O_ ?_ | refine OD_ hm ?_
  refine G_ 200 hE ?_
  refine rc_ hE hP (Of1p_fc c cz hc9 hC) Tryd.func22 ?_
  refine G_ 200 hE ?_
  first | refine rz ?_ | refine ZD_ ?_
  refine A_ ?_
  first | refine O_ ?_ | refine OD_ hm ?_
  refine G_ 200 hE ?_
  refine rc_ hE hP (kNone_fc S hS) Tryd.func85 ?_
  refine G_ 0 hE ?_
  refine rc_ hE hP (mDp_fc k l S dz hl hD) Tryd.func48 ?_
  refine G_ 2 hE ?_
  refine rc_ hE hP (mLabel_fc dz [101, 120, 112, 111, 114, 116, 101, 114] (p32 cz) n (by decide) (by rw [p32_len]; decide) hn) Tryd.func46 ?_
  refine G_ 200 hE ?_
  first | refine rz ?_ | refine ZD_ ?_
  refine A_ ?_
  exact ret_

theorem kExportN_fc (k l c S cz dz : List UInt8) (n : Int) (hS : sha [] = p32 S) (hC : sha c = p32 cz) (hD : e32 (p32 k) (lab l (p32 S) 32) = p32 dz) (hl : l.length ≤ 249) (hc9 : c.length ≤ 100000) (hn : n < 0) : FC Tryd.prog GS 59 [.aggb (p32 k), .str l, .rob c, .int .i64 n] (.tup [.ownb [], .int .i64 1]) none := by
  refine fi_ 26 [8, 9] ti_eq gpS Tryd.func59 (fun C hE hm hP hrc hrn => ?_)
  repeat' (first | refine A1_ ?_ | refine C_ hE (fun hc => ?_) (fun hc => ?_) <;> (try (exfalso; omega)))
  first | refine O_ ?_ | refine OD_ hm ?_
  refine G_ 200 hE ?_
  refine rc_ hE hP (Of1p_fc c cz hc9 hC) Tryd.func22 ?_
  refine G_ 200 hE ?_
  first | refine rz ?_ | refine ZD_ ?_
  refine A_ ?_
  first | refine O_ ?_ | refine OD_ hm ?_
  refine G_ 200 hE ?_
  refine rc_ hE hP (kNone_fc S hS) Tryd.func85 ?_
  refine G_ 0 hE ?_
  refine rc_ hE hP (mDp_fc k l S dz hl hD) Tryd.func48 ?_
  refine G_ 2 hE ?_
  refine rc_ hE hP (mLabelBad_fc dz [101, 120, 112, 111, 114, 116, 101, 114] (p32 cz) n (.inl hn) (by decide) (by rw [p32_len]; decide)) Tryd.func46 ?_
  refine G_ 200 hE ?_
  first | refine rz ?_ | refine ZD_ ?_
  refine A_ ?_
  exact ret_

theorem kExportL_fc (k l c : List UInt8) (n : Int) (hl : 249 < l.length) : FC Tryd.prog GS 59 [.aggb (p32 k), .str l, .rob c, .int .i64 n] (.tup [.ownb [], .int .i64 1]) none := by
  refine fi_ 26 [8, 9] ti_eq gpS Tryd.func59 (fun C hE hm hP hrc hrn => ?_)
  repeat' (first | refine A1_ ?_ | refine C_ hE (fun hc => ?_) (fun hc => ?_) <;> (try (exfalso; omega)))
  exact ret_

theorem rExport_fc (k l c S cz dz : List UInt8) (n : Nat) (hS : sha [] = p32 S) (hC : sha c = p32 cz) (hD : e32 (p32 k) (lab l (p32 S) 32) = p32 dz) (hl : l.length ≤ 249) (hc9 : c.length ≤ 100000) (hn : n ≤ 8160) : FC Tryd.prog GS 60 [.str (p32 k), .str l, .str c, .int .i64 n] (.tup [.str (eK (p32 dz) (lab [101, 120, 112, 111, 114, 116, 101, 114] (p32 cz) n) n), .int .i64 0]) none := by
  refine fi_ 23 [8, 9] ti_eq gpS Tryd.func60 (fun C hE hm hP hrc hrn => ?_)
  repeat' (first | refine A1_ ?_ | refine C_ hE (fun hc => ?_) (fun hc => ?_) <;> (try (exfalso; omega)))
  first | refine O_ ?_ | refine OD_ hm ?_
  refine G_ 200 hE ?_
  refine rc_ hE hP (rSum0_fc S hS) Tryd.func24 ?_
  refine G_ 0 hE ?_
  refine rc_ hE hP (rDp_fc k l S dz hl hD) Tryd.func81 ?_
  refine G_ 1 hE ?_
  refine rc_ hE hP (rSump_fc c cz hc9 hC) Tryd.func24 ?_
  refine G_ 1 hE ?_
  refine rc_ hE hP (rLabel_fc dz [101, 120, 112, 111, 114, 116, 101, 114] (p32 cz) n (by decide) (by rw [p32_len]; decide) hn) Tryd.func47 ?_
  refine G_ 200 hE ?_
  first | refine rz ?_ | refine ZD_ ?_
  refine A_ ?_
  exact ret_

theorem rExportN_fc (k l c S cz dz : List UInt8) (n : Int) (hS : sha [] = p32 S) (hC : sha c = p32 cz) (hD : e32 (p32 k) (lab l (p32 S) 32) = p32 dz) (hl : l.length ≤ 249) (hc9 : c.length ≤ 100000) (hn : n < 0) : FC Tryd.prog GS 60 [.str (p32 k), .str l, .str c, .int .i64 n] (.tup [.str [], .int .i64 1]) none := by
  refine fi_ 23 [8, 9] ti_eq gpS Tryd.func60 (fun C hE hm hP hrc hrn => ?_)
  repeat' (first | refine A1_ ?_ | refine C_ hE (fun hc => ?_) (fun hc => ?_) <;> (try (exfalso; omega)))
  first | refine O_ ?_ | refine OD_ hm ?_
  refine G_ 200 hE ?_
  refine rc_ hE hP (rSum0_fc S hS) Tryd.func24 ?_
  refine G_ 0 hE ?_
  refine rc_ hE hP (rDp_fc k l S dz hl hD) Tryd.func81 ?_
  refine G_ 1 hE ?_
  refine rc_ hE hP (rSump_fc c cz hc9 hC) Tryd.func24 ?_
  refine G_ 1 hE ?_
  refine rc_ hE hP (rLabelBad_fc (p32 dz) [101, 120, 112, 111, 114, 116, 101, 114] (p32 cz) n (.inl hn) (by decide) (by rw [p32_len]; decide)) Tryd.func47 ?_
  refine G_ 200 hE ?_
  first | refine rz ?_ | refine ZD_ ?_
  refine A_ ?_
  exact ret_

theorem rExportL_fc (k l c : List UInt8) (n : Int) (hl : 249 < l.length) : FC Tryd.prog GS 60 [.str k, .str l, .str c, .int .i64 n] (.tup [.str [], .int .i64 1]) none := by
  refine fi_ 23 [8, 9] ti_eq gpS Tryd.func60 (fun C hE hm hP hrc hrn => ?_)
  repeat' (first | refine A1_ ?_ | refine C_ hE (fun hc => ?_) (fun hc => ?_) <;> (try (exfalso; omega)))
  exact ret_

theorem kAgain_fc (k c : List UInt8) (hc9 : c.length ≤ 255) : FC Tryd.prog GS 61 [.aggb (p32 k), .rob c] (.aggb (e32 (p32 k) (lab [114, 101, 115, 117, 109, 112, 116, 105, 111, 110] c 32))) none := by
  refine fic_ 18 ti_eq gpS Tryd.func61 (fun C hE hm hP hrc hrn => ?_)
  refine A_ ?_
  first | refine O_ ?_ | refine OD_ hm ?_
  refine G_ 200 hE ?_
  refine rc_ hE hP (mLabel32_fc k [114, 101, 115, 117, 109, 112, 116, 105, 111, 110] c (by decide) hc9) Tryd.func46 ?_
  refine G_ 200 hE ?_
  first | refine rz ?_ | refine ZD_ ?_
  refine A_ ?_
  exact retc_

theorem kAgainBad_fc (k c : List UInt8) (hc9 : 255 < c.length) (hC9 : c.length ≤ 1000) : FC Tryd.prog GS 61 [.aggb (p32 k), .rob c] (.aggb (List.replicate 32 0)) none := by
  refine fic_ 18 ti_eq gpS Tryd.func61 (fun C hE hm hP hrc hrn => ?_)
  refine A_ ?_
  first | refine O_ ?_ | refine OD_ hm ?_
  refine G_ 200 hE ?_
  refine rc_ hE hP (mLabelBad_fc k [114, 101, 115, 117, 109, 112, 116, 105, 111, 110] c 32 (.inr (.inr (.inr hc9))) (by decide) hC9) Tryd.func46 ?_
  refine G_ 200 hE ?_
  first | refine rz ?_ | refine ZD_ ?_
  refine A_ ?_
  exact retc_

theorem rL32c_fc (k l c : List UInt8) (hl : l.length ≤ 249) (hc9 : c.length ≤ 255) : FC Tryd.prog GS 47 [.str (p32 k), .str l, .str c, .int .i64 32] (.tup [.str (e32 (p32 k) (lab l c 32)), .int .i64 0]) none := by
  have h := rLabel_fc k l c 32 hl hc9 (by decide)
  rw [← e32_def] at h
  exact h

theorem rDeriveC_fc (k l c : List UInt8) (hl : l.length ≤ 249) (hc9 : c.length ≤ 255) : FC Tryd.prog GS 81 [.str (p32 k), .str l, .str c] (.str (e32 (p32 k) (lab l c 32))) none := by
  refine fi_ 20 [6] ti_eq gpS Tryd.func81 (fun C hE hm hP hrc hrn => ?_)
  refine A_ ?_
  first | refine O_ ?_ | refine OD_ hm ?_
  refine G_ 200 hE ?_
  refine rc_ hE hP (rL32c_fc k l c hl hc9) Tryd.func47 ?_
  refine G_ 200 hE ?_
  first | refine rz ?_ | refine ZD_ ?_
  repeat' (first | refine A1_ ?_ | refine C_ hE (fun hc => ?_) (fun hc => ?_) <;> (try (exfalso; omega)))
  exact ret_

theorem rDeriveBad_fc (k l c : List UInt8) (hl : l.length ≤ 249) (hc9 : 255 < c.length) (hC9 : c.length ≤ 1000) : FC Tryd.prog GS 81 [.str (p32 k), .str l, .str c] (.str (List.replicate 32 0)) none := by
  refine fi_ 20 [6] ti_eq gpS Tryd.func81 (fun C hE hm hP hrc hrn => ?_)
  refine A_ ?_
  first | refine O_ ?_ | refine OD_ hm ?_
  refine G_ 200 hE ?_
  refine rc_ hE hP (rLabelBad_fc (p32 k) l c 32 (.inr (.inr (.inr hc9))) (by omega) hC9) Tryd.func47 ?_
  refine G_ 200 hE ?_
  first | refine rz ?_ | refine ZD_ ?_
  repeat' (first | refine A1_ ?_ | refine C_ hE (fun hc => ?_) (fun hc => ?_) <;> (try (exfalso; omega)))
  first | refine O_ ?_ | refine OD_ hm ?_
  refine G_ 200 hE ?_
  refine rc_ hE hP (zero_fc) Tryd.func80 ?_
  refine G_ 200 hE ?_
  first | refine rz ?_ | refine ZD_ ?_
  refine A_ ?_
  exact ret_

theorem rAgain_fc (k c : List UInt8) (hc9 : c.length ≤ 255) : FC Tryd.prog GS 62 [.str (p32 k), .str c] (.str (e32 (p32 k) (lab [114, 101, 115, 117, 109, 112, 116, 105, 111, 110] c 32))) none := by
  refine fi_ 8 [4] ti_eq gpS Tryd.func62 (fun C hE hm hP hrc hrn => ?_)
  refine A_ ?_
  first | refine O_ ?_ | refine OD_ hm ?_
  refine G_ 200 hE ?_
  refine rc_ hE hP (rDeriveC_fc k [114, 101, 115, 117, 109, 112, 116, 105, 111, 110] c (by decide) hc9) Tryd.func81 ?_
  refine G_ 200 hE ?_
  first | refine rz ?_ | refine ZD_ ?_
  refine A_ ?_
  exact ret_

theorem rAgainBad_fc (k c : List UInt8) (hc9 : 255 < c.length) (hC9 : c.length ≤ 1000) : FC Tryd.prog GS 62 [.str (p32 k), .str c] (.str (List.replicate 32 0)) none := by
  refine fi_ 8 [4] ti_eq gpS Tryd.func62 (fun C hE hm hP hrc hrn => ?_)
  refine A_ ?_
  first | refine O_ ?_ | refine OD_ hm ?_
  refine G_ 200 hE ?_
  refine rc_ hE hP (rDeriveBad_fc k [114, 101, 115, 117, 109, 112, 116, 105, 111, 110] c (by decide) hc9 hC9) Tryd.func81 ?_
  refine G_ 200 hE ?_
  first | refine rz ?_ | refine ZD_ ?_
  refine A_ ?_
  exact ret_
end Go.Proofs.YtkokcibnkcmcjaaDoor
