/- What the claim leans on, text Zm: Wr5. No condition beyond what each lemma states. -/
import Derived.Test.YtocfhkmdkdjinaaDoorZd
import Derived.Test.YtocfhkmdkdjinaaDoorZt
import Derived.Test.YtocfhkmdkdjinaaDoorZl

/- WrapWraps and WrapBent return true. Printed by wp.py. -/
namespace Go.Proofs.YtocfhkmdkdjinaaDoor
open Go Go.RowKit
set_option linter.unusedVariables false
set_option linter.unusedSimpArgs false
set_option maxRecDepth 100000
set_option maxHeartbeats 4000000
attribute [local irreducible] inR VC RG VCn sq inS lq nq jq Wk rq
theorem decL (l : List UInt8) : decide (l = l) = true := decide_eq_true rfl
theorem decI (n : Int) : decide (n = n) = true := decide_eq_true rfl
theorem wr_two (k : Int) (key salt asked sec : List UInt8) (h : key.length ≤ 250) : (wrR k key (q2 salt) (q16 asked) sec).1.length ≤ 300 ∧ ((wrR k key (q2 salt) (q16 asked) sec).2 = 0 → unw (wrR k key (q2 salt) (q16 asked) sec).1 (q16 asked) sec = (k, key, 0) ∧ 8 < (wrR k key (q2 salt) (q16 asked) sec).1.length) := by
  cases hc : wrC k key (q2 salt)
  · rw [wrR_no hc]
    exact ⟨by decide, fun h => absurd h (by decide)⟩
  · obtain ⟨V, hV, hl, hu, _⟩ := wr_facts k key salt asked sec hc
    rw [hV]
    have := pad16_len (b8 (key.length : Int) :: key)
    simp only [List.length_cons] at this
    exact ⟨by show V.length ≤ 300; omega, fun _ => ⟨hu, by show 8 < V.length; omega⟩⟩
attribute [local irreducible] md hidB shoB pad16 wrB wrR unw

namespace UwrapWraps_fc
theorem U : type_of% @md_take ∧ type_of% @md_len ∧ type_of% (@drop_rep UInt8) ∧ type_of% (@drop_rep D) ∧ type_of% (@List.take_zero UInt8) ∧ type_of% (@List.take_zero D) ∧ type_of% @q16_take ∧ type_of% @q2_take ∧ type_of% @q16_len ∧ type_of% @q2_len ∧ type_of% @q2_fold ∧ type_of% @q16_fold ∧ type_of% @bxx ∧ type_of% @decL ∧ type_of% @decI := ⟨@md_take, @md_len, (@drop_rep UInt8), (@drop_rep D), (@List.take_zero UInt8), (@List.take_zero D), @q16_take, @q2_take, @q16_len, @q2_len, @q2_fold, @q16_fold, @bxx, @decL, @decI⟩
end UwrapWraps_fc
open UwrapWraps_fc
theorem wrapWraps_fc (k : Int) (key s a sec : List UInt8) : FC Tryd.prog GO 4 [.agg [.int .i64 k, .rob key, .u8 (gb s 0), .u8 (gb s 1), .u8 (gb a 0), .u8 (gb a 1), .u8 (gb a 2), .u8 (gb a 3), .u8 (gb a 4), .u8 (gb a 5), .u8 (gb a 6), .u8 (gb a 7), .u8 (gb a 8), .u8 (gb a 9), .u8 (gb a 10), .u8 (gb a 11), .u8 (gb a 12), .u8 (gb a 13), .u8 (gb a 14), .u8 (gb a 15), .rob sec]] (.bool true) none := by
  refine fi_ 98 [2] ti_eq gpO Tryd.func4 (fun C hE hm hP hrc hrn => ?_)
  have ck := (key_fc k key s a sec).any (G := GO)
  have cs := (secret_fc k key s a sec).any (G := GO)
  have hk : (key.take (min (key.length : Int) 250).toNat).length ≤ 250 := by rw [List.length_take]; omega
  have hs : (sec.take (min (sec.length : Int) 60).toNat).length ≤ 60 := by rw [List.length_take]; omega
  generalize key.take (min (key.length : Int) 250).toNat = kk at ck hk
  generalize sec.take (min (sec.length : Int) 60).toNat = ss at cs hs
  have f1 := wrap_fc k kk s a ss (by omega) (by omega)
  have f2 := (rwrap_fc k kk s a ss (by omega) (by omega)).any (G := GO)
  have hw := wr_two k kk s a ss hk
  generalize wrR k kk (q2 s) (q16 a) ss = W at f1 f2 hw
  obtain ⟨V, e⟩ := W
  simp only at f1 f2 hw
  refine A_ ?_
  first | refine O_ ?_ | refine OD_ hm ?_
  refine G_ 200 hE ?_
  refine rc_ hE hP (ck) Tryd.func24 ?_
  refine G_ 200 hE ?_
  refine rc_ hE hP (cs) Tryd.func25 ?_
  refine G_ 200 hE ?_
  first | refine rz ?_ | refine ZD_ ?_
  refine A_ ?_
  first | refine O_ ?_ | refine OD_ hm ?_
  refine G_ 200 hE ?_
  refine rc_ hE hP (f1) Tryd.func19 ?_
  refine G_ 200 hE ?_
  first | refine rz ?_ | refine ZD_ ?_
  refine A_ ?_
  first | refine O_ ?_ | refine OD_ hm ?_
  refine G_ 200 hE ?_
  refine rc_ hE hP (ck) Tryd.func24 ?_
  refine G_ 200 hE ?_
  refine rc_ hE hP (f2) Tryd.func26 ?_
  refine G_ 200 hE ?_
  first | refine rz ?_ | refine ZD_ ?_
  refine A_ ?_
  first | refine O_ ?_ | refine OD_ hm ?_
  refine G_ 200 hE ?_
  refine rc_ hE hP (wraps_fc) Tryd.func27 ?_
  refine G_ 2 hE ?_
  refine GT_ hE (rfl) ?_
  refine GT_ hE (rfl) ?_
  refine GT_ hE (rfl) ?_
  refine GT_ hE (rfl) ?_
  refine G_ 2 hE ?_
  refine GT_ hE (rfl) ?_
  refine GT_ hE (rfl) ?_
  refine GT_ hE (rfl) ?_
  refine G_ 2 hE ?_
  refine GT_ hE (rfl) ?_
  refine GT_ hE (rfl) ?_
  refine GT_ hE (rfl) ?_
  refine rct_ hE hP (ck) Tryd.func24 (rfl) ?_
  refine GT_ hE (rfl) ?_
  refine GT_ hE (rfl) ?_
  refine G_ 2 hE ?_
  refine GT_ hE (rfl) ?_
  refine GT_ hE (rfl) ?_
  refine GT_ hE (rfl) ?_
  refine rct_ hE hP (cs) Tryd.func25 (rfl) ?_
  refine GT_ hE (rfl) ?_
  refine GT_ hE (rfl) ?_
  refine G_ 200 hE ?_
  first | refine rz ?_ | refine ZD_ ?_
  refine A_ ?_
  refine C_ hE (fun hc => ?_) (fun hc => ?_) <;> (try (exfalso; omega))
  · refine A_ ?_
    exact ret_
  · have f3 := unwrap_fc V a ss (by omega) (by omega)
    rw [(hw.2 (by omega)).1] at f3
    refine A_ ?_
    first | refine O_ ?_ | refine OD_ hm ?_
    refine G_ 200 hE ?_
    refine rc_ hE hP (f3) Tryd.func23 ?_
    refine G_ 200 hE ?_
    first | refine rz ?_ | refine ZD_ ?_
    refine A_ ?_
    exact ret_

theorem wrapBent_fc (k at_ : Int) (key s a sec : List UInt8) (by_ : UInt8) : FC Tryd.prog GO 6 [.agg [.int .i64 k, .rob key, .u8 (gb s 0), .u8 (gb s 1), .u8 (gb a 0), .u8 (gb a 1), .u8 (gb a 2), .u8 (gb a 3), .u8 (gb a 4), .u8 (gb a 5), .u8 (gb a 6), .u8 (gb a 7), .u8 (gb a 8), .u8 (gb a 9), .u8 (gb a 10), .u8 (gb a 11), .u8 (gb a 12), .u8 (gb a 13), .u8 (gb a 14), .u8 (gb a 15), .rob sec], .int .i64 at_, .u8 by_] (.bool true) none := by
  refine fi_ 138 [6] ti_eq gpO Tryd.func6 (fun C hE hm hP hrc hrn => ?_)
  have ck := (key_fc k key s a sec).any (G := GO)
  have cs := (secret_fc k key s a sec).any (G := GO)
  have hk : (key.take (min (key.length : Int) 250).toNat).length ≤ 250 := by rw [List.length_take]; omega
  have hs : (sec.take (min (sec.length : Int) 60).toNat).length ≤ 60 := by rw [List.length_take]; omega
  generalize key.take (min (key.length : Int) 250).toNat = kk at ck hk
  generalize sec.take (min (sec.length : Int) 60).toNat = ss at cs hs
  have f1 := wrap_fc k kk s a ss (by omega) (by omega)
  have hw := wr_two k kk s a ss hk
  generalize wrR k kk (q2 s) (q16 a) ss = W at f1 hw
  obtain ⟨V, e⟩ := W
  simp only at f1 hw
  refine A_ ?_
  first | refine O_ ?_ | refine OD_ hm ?_
  refine G_ 200 hE ?_
  refine rc_ hE hP (ck) Tryd.func24 ?_
  refine G_ 200 hE ?_
  refine rc_ hE hP (cs) Tryd.func25 ?_
  refine G_ 200 hE ?_
  refine rc_ hE hP (f1) Tryd.func19 ?_
  refine G_ 200 hE ?_
  first | refine rz ?_ | refine ZD_ ?_
  refine A_ ?_
  first | refine O_ ?_ | refine OD_ hm ?_
  refine G_ 200 hE ?_
  refine rc_ hE hP (wraps_fc) Tryd.func27 ?_
  refine G_ 200 hE ?_
  first | refine rz ?_ | refine ZD_ ?_
  refine A_ ?_
  refine C_ hE (fun hc => ?_) (fun hc => ?_) <;> (try (exfalso; omega))
  · refine A_ ?_
    first | refine O_ ?_ | refine OD_ hm ?_
    refine G_ 200 hE ?_
    refine rc_ hE hP (wraps_fc) Tryd.func27 ?_
    refine G_ 200 hE ?_
    first | refine rz ?_ | refine ZD_ ?_
    refine A_ ?_
    exact ret_
  · have hV := (hw.2 (by omega)).2
    have hw1 := wr64 at_
    obtain ⟨m, hmm⟩ : ∃ m : Nat, IntKind.u64.wrap at_ % 16 = m := ⟨(IntKind.u64.wrap at_ % 16).toNat, by omega⟩
    have hm2 : m < 16 := by omega
    have hp := Int.emod_nonneg (IntKind.u64.wrap at_) (show (V.length : Int) ≠ 0 by omega)
    obtain ⟨c, hcc⟩ : ∃ c : Nat, IntKind.u64.wrap at_ % (V.length : Int) = c := ⟨(IntKind.u64.wrap at_ % (V.length : Int)).toNat, by omega⟩
    have hc2 : c < V.length := by
      have := Int.emod_lt_of_pos (IntKind.u64.wrap at_) (show (0 : Int) < (V.length : Int) by omega)
      omega
    have hwm := wrap_inR .u64 (V.length : Int) ((inR_u64 _).2 ⟨by omega, by omega⟩)
    refine vc_skip ?_
    refine sq_n ?_
    refine vs ?_
    refine R_ hE ?_
    refine sq_n ?_
    refine vs ?_
    first | refine O_ ?_ | refine OD_ hm ?_
    refine G_ 3 hE ?_
    rw [hmm]
    refine G_ 200 hE ?_
    first | refine rz ?_ | refine ZD_ ?_
    obtain ⟨b, hb⟩ : ∃ b, (q16 a).set m (gb (q16 a) m ^^^ by_) = q16 b := ⟨_, (q16_of _ (by rw [List.length_set, q16_len])).symm⟩
    rw [hb]
    have g1 := unwrap_fc V b ss (by omega) (by omega)
    have g2 := (runwrap_fc V b ss (by omega) (by omega)).any (G := GO)
    generalize unw V (q16 b) ss = R1 at g1 g2
    obtain ⟨r1, r2, r3⟩ := R1
    refine sq_n ?_
    refine vs ?_
    first | refine O_ ?_ | refine OD_ hm ?_
    refine G_ 200 hE ?_
    refine rc_ hE hP (cs) Tryd.func25 ?_
    refine G_ 200 hE ?_
    refine rc_ hE hP (g1) Tryd.func23 ?_
    refine G_ 200 hE ?_
    first | refine rz ?_ | refine ZD_ ?_
    refine sq_n ?_
    refine vs ?_
    first | refine O_ ?_ | refine OD_ hm ?_
    refine G_ 200 hE ?_
    refine rc_ hE hP (cs) Tryd.func25 ?_
    refine G_ 200 hE ?_
    refine rc_ hE hP (g2) Tryd.func28 ?_
    refine G_ 200 hE ?_
    first | refine rz ?_ | refine ZD_ ?_
    refine sq_n ?_
    refine vs ?_
    first | refine O_ ?_ | refine OD_ hm ?_
    refine G_ 6 hE ?_
    rw [hwm]
    refine G_ 1 hE ?_
    rw [hcc]
    refine G_ 200 hE ?_
    first | refine rz ?_ | refine ZD_ ?_
    have hvl : (V.set c (gb V c ^^^ by_)).length = V.length := List.length_set
    rw [← hvl]
    generalize V.set c (gb V c ^^^ by_) = V2 at *
    have g3 := unwrap_fc V2 a ss (by omega) (by omega)
    have g4 := (runwrap_fc V2 a ss (by omega) (by omega)).any (G := GO)
    generalize unw V2 (q16 a) ss = R2 at g3 g4
    obtain ⟨t1, t2, t3⟩ := R2
    refine sq_n ?_
    refine vs ?_
    first | refine O_ ?_ | refine OD_ hm ?_
    refine G_ 200 hE ?_
    refine rc_ hE hP (cs) Tryd.func25 ?_
    refine G_ 200 hE ?_
    refine rc_ hE hP (g3) Tryd.func23 ?_
    refine G_ 200 hE ?_
    first | refine rz ?_ | refine ZD_ ?_
    refine sq_n ?_
    refine vs ?_
    first | refine O_ ?_ | refine OD_ hm ?_
    refine G_ 200 hE ?_
    refine rc_ hE hP (cs) Tryd.func25 ?_
    refine G_ 200 hE ?_
    refine rc_ hE hP (g4) Tryd.func28 ?_
    refine G_ 200 hE ?_
    first | refine rz ?_ | refine ZD_ ?_
    refine A_ ?_
    exact ret_
end Go.Proofs.YtocfhkmdkdjinaaDoor
