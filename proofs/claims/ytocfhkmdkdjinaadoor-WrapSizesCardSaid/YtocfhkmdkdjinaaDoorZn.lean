/- What the claim leans on, text Zn: Wr6. No condition beyond what each lemma states. -/
import Derived.Test.YtocfhkmdkdjinaaDoorZd
import Derived.Test.YtocfhkmdkdjinaaDoorZt
import Derived.Test.YtocfhkmdkdjinaaDoorZm

/- WrapSizes and WrapSalts return true. Printed by wp.py. -/
namespace Go.Proofs.YtocfhkmdkdjinaaDoor
open Go Go.RowKit
set_option linter.unusedVariables false
set_option linter.unusedSimpArgs false
set_option maxRecDepth 100000
set_option maxHeartbeats 4000000
attribute [local irreducible] inR VC RG VCn sq inS lq nq jq Wk rq
theorem or128r (x : UInt8) : 128 ≤ (x ||| 128).toNat := by rw [UInt8.toNat_or]; exact Nat.right_le_or
theorem or128l (x : UInt8) : 128 ≤ (128 ||| x).toNat := by rw [UInt8.toNat_or]; exact Nat.left_le_or
theorem pad16_size (b : List UInt8) : (pad16 b).length = (b.length + 15) / 16 * 16 := by
  have := pad16_len b
  omega
attribute [local irreducible] md hidB shoB pad16 wrB wrR unw

namespace UwrapSizes_fc
theorem U : type_of% @md_take ∧ type_of% @md_len ∧ type_of% (@drop_rep UInt8) ∧ type_of% (@drop_rep D) ∧ type_of% (@List.take_zero UInt8) ∧ type_of% (@List.take_zero D) ∧ type_of% @q16_take ∧ type_of% @q2_take ∧ type_of% @q16_len ∧ type_of% @q2_len ∧ type_of% @q2_fold ∧ type_of% @q16_fold ∧ type_of% @bxx ∧ type_of% @decL ∧ type_of% @decI := ⟨@md_take, @md_len, (@drop_rep UInt8), (@drop_rep D), (@List.take_zero UInt8), (@List.take_zero D), @q16_take, @q2_take, @q16_len, @q2_len, @q2_fold, @q16_fold, @bxx, @decL, @decI⟩
end UwrapSizes_fc
open UwrapSizes_fc
theorem wrapSizes_fc (n : Int) (x : UInt8) : FC Tryd.prog GO 7 [.int .i64 n, .u8 x] (.bool true) none := by
  refine fi_ 50 [4] ti_eq gpO Tryd.func7 (fun C hE hm hP hrc hrn => ?_)
  have hw1 := wr64 n
  obtain ⟨m, hmm⟩ : ∃ m : Nat, IntKind.u64.wrap n % 200 = m := ⟨(IntKind.u64.wrap n % 200).toNat, by omega⟩
  have hm2 : m < 200 := by omega
  obtain ⟨V, hV, hl, hu, h3, h6, h7, h5⟩ := wr_facts 17 (List.replicate (1 + m) 0) [x ||| 128, 1] [] [115] (by
    unfold wrC kdOk
    have e : gb (q2 [x ||| 128, 1]) 0 = x ||| 128 := rfl
    rw [List.length_replicate, e, decide_eq_true (show 1 ≤ 1 + m by omega), decide_eq_true (show 1 + m ≤ 200 by omega), decide_eq_true (or128r x)]
    rfl)
  rw [pad16_size, List.length_cons, List.length_replicate] at hl
  have hg5 := b8_toNat (x := (V.length : Int) - 4) (by omega) (by omega)
  rw [← h5] at hg5
  have fc1 := wrap_fc 17 (List.replicate (1 + m) 0) [x ||| 128, 1] [] [115] (by simp; omega) (by decide)
  rw [hV] at fc1
  refine vs ?_
  refine R_ hE ?_
  refine sq_n ?_
  refine vs ?_
  first | refine O_ ?_ | refine OD_ hm ?_
  refine G_ 3 hE ?_
  rw [hmm]
  refine G_ 200 hE ?_
  first | refine rz ?_ | refine ZD_ ?_
  refine A_ ?_
  first | refine O_ ?_ | refine OD_ hm ?_
  refine G_ 2 hE ?_
  rw [show (1 + (m : Int)).toNat = 1 + m by omega]
  refine G_ 200 hE ?_
  refine rc_ hE hP (fc1) Tryd.func19 ?_
  refine G_ 200 hE ?_
  first | refine rz ?_ | refine ZD_ ?_
  refine A_ ?_
  first | refine O_ ?_ | refine OD_ hm ?_
  refine G_ 200 hE ?_
  refine rc_ hE hP (wraps_fc) Tryd.func27 ?_
  refine G_ 200 hE ?_
  first | refine rz ?_ | refine ZD_ ?_
  have e1 : decide ((V.length : Int) = 8 + (1 + (m : Int) + 1 + 15) / 16 * 16) = true := decide_eq_true (by omega)
  have e2 : decide (((gb V 5).toNat : Int) = (V.length : Int) - 4) = true := decide_eq_true hg5
  refine A_ ?_
  exact ret_ (h := by (first | exact Mat.tnil | apply mat1 rfl | apply mat2 rfl rfl | apply mat3 rfl rfl rfl) <;> (repeat' (first | exact .tnil | exact mat_eq rfl rfl | apply mat_i | apply mat_bl | apply mat_u8 | apply mat_u32 | apply mat_st | apply mat_ab | apply mat_rbe | apply mat_nrb | apply mat_nob | exact mat_nos rfl rfl | exact mat_rf0 rfl | exact mat_trob | (apply mat_rf rfl rfl rfl) | refine mat_slf (e := 1) rfl rfl rfl rfl ?_ ?_ ?_ (by first | exact fr0_rob _ | exact fr0_str _ | exact fr0_str _) | (apply mat_sls rfl rfl rfl rfl rfl rfl) | exact mat_pf rfl rfl rfl rfl rfl | (apply mat_s0 rfl rfl rfl; (· first | rfl | (simp <;> fail) | (simp; omega) | omega)) | (apply mat_r0 rfl rfl rfl; (· first | rfl | (simp <;> fail) | (simp; omega) | omega)) | apply mat_sl rfl rfl rfl | apply mat_rb rfl rfl rfl | apply mat_p rfl rfl rfl rfl | apply mc)) <;> (first | rfl | assumption | (simp only [Z, U, Int.cast_ofNat_Int, UInt8.reduceToNat, UInt32.reduceToNat, Nat.reduceAdd, Nat.reduceMul, Nat.reduceSub, Nat.reduceLeDiff, Int.reduceToNat, Int.reducePow, Nat.reducePow] <;> fail) | (simp [e1, e2, *] <;> fail) | (simp_all [e1, e2] <;> fail) | (simp <;> fail) | omega | (simp [List.take_of_length_le] <;> fail)))

theorem wrapSalts_fc (l0 s a : List UInt8) : FC Tryd.prog GO 8 [.rob l0, .aggb (q2 s), .aggb (q2 a)] (.bool true) none := by
  refine fi_ 91 [6] ti_eq gpO Tryd.func8 (fun C hE hm hP hrc hrn => ?_)
  refine vs ?_
  refine R_ hE ?_
  refine sq_n ?_
  refine vs ?_
  refine R_ hE ?_
  obtain ⟨kk, hkk⟩ : ∃ kk, kk = List.take 1 [(1 : UInt8)] ++ l0.take (min (l0.length : Int) 100).toNat := ⟨_, rfl⟩
  have hkl : 1 + min (min (l0.length : Int) 100).toNat l0.length = kk.length := by rw [hkk, List.length_append, List.length_take, List.length_take]; rfl
  rw [← hkk, hkl]
  have hk1 : 1 ≤ kk.length := by omega
  have hk2 : kk.length ≤ 101 := by omega
  clear hkk hkl
  refine A_ ?_
  refine vl (fun i : Nat => ⟨[(0, .sl 14 2 0 kk.length), (4, .ptr 4 1 0), (5, .ptr 5 1 0), (6, .bool false), (7, .int .i64 i)], [(14, ⟨⟨2, 1, kk.length⟩, some (.bytes kk)⟩), (4, ⟨⟨1, 1, 2⟩, some (.bytes (q2 s))⟩), (5, ⟨⟨1, 1, 2⟩, some (.bytes (q2 a))⟩)], []⟩) (fun i => i ≤ 2) (fun i => 2 - i) 0 ?_ (Nat.zero_le _) (fun i hi => ?_)
  · exact wk_ hrc
  · refine A_ ?_
    refine C_ hE (fun hc => ?_) (fun hc => ?_) <;> (try (exfalso; omega))
    · obtain ⟨x, hx⟩ : ∃ x, x = gb (q2 s) i := ⟨_, rfl⟩
      obtain ⟨y, hy⟩ : ∃ y, y = gb (q2 a) i := ⟨_, rfl⟩
      obtain ⟨V, hV, hl, hu, h3, h6, h7, h5⟩ := wr_facts 16 kk [128 ||| x, x] [y] [115, 101, 99, 114, 101, 116] (by
        unfold wrC kdOk
        have e : gb (q2 [128 ||| x, x]) 0 = 128 ||| x := rfl
        rw [e, decide_eq_true hk1, decide_eq_true (show kk.length ≤ 200 by omega), decide_eq_true (or128l x)]
        rfl)
      rw [pad16_size, List.length_cons] at hl
      have h6' : gb V 6 = 128 ||| x := h6
      have h7' : gb V 7 = x := h7
      have fc1 := wrap_fc 16 kk [128 ||| x, x] [y] [115, 101, 99, 114, 101, 116] (by omega) (by decide)
      rw [hV] at fc1
      have fc2 := unwrap_fc V [y] [115, 101, 99, 114, 101, 116] (by omega) (by decide)
      rw [hu] at fc2
      refine A_ ?_
      rw [← hy, show (y :: (List.map D.toU8 (List.drop 1 (List.replicate 16 (D.u8 0))) ++ List.drop ((List.map D.toU8 (List.drop 1 (List.replicate 16 (D.u8 0)))).length + 1) (List.replicate 16 (0 : UInt8)))) = q16 [y] from rfl]
      first | refine O_ ?_ | refine OD_ hm ?_
      refine G_ 8 hE ?_
      rw [← hx]
      refine G_ 200 hE ?_
      refine rc_ hE hP (fc1) Tryd.func19 ?_
      refine G_ 200 hE ?_
      first | refine rz ?_ | refine ZD_ ?_
      refine A_ ?_
      first | refine O_ ?_ | refine OD_ hm ?_
      refine G_ 200 hE ?_
      refine rc_ hE hP (fc2) Tryd.func23 ?_
      refine G_ 200 hE ?_
      first | refine rz ?_ | refine ZD_ ?_
      refine A_ ?_
      refine C_ hE (fun hd => ?_) (fun hd => ?_) <;> (try (exfalso; omega))
      · exfalso
        rw [← hx, h6', h7'] at hd
        simp at hd
      · refine A_ ?_
        refine lq_n (i + 1) ?_ (by omega) (by omega)
        exact wk_ hrc
    · obtain rfl : i = 2 := by omega
      refine A_ ?_
      first | refine O_ ?_ | refine OD_ hm ?_
      refine G_ 200 hE ?_
      refine rc_ hE hP (wraps_fc) Tryd.func27 ?_
      refine G_ 200 hE ?_
      first | refine rz ?_ | refine ZD_ ?_
      refine A_ ?_
      exact ret_
end Go.Proofs.YtocfhkmdkdjinaaDoor
