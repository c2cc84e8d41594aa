/- What the claim leans on, text Zpg: Pot, Po7. No condition beyond what each lemma states. -/
import Derived.Test.YtocfhkmdkdjinaaDoorZpb
import Derived.Test.YtocfhkmdkdjinaaDoorZd
import Derived.Test.YtocfhkmdkdjinaaDoorZt
import Derived.Test.YtocfhkmdkdjinaaDoorZpf

/- How a port that is asked for ticks goes on, in plain Lean. -/
namespace Go.Proofs.YtocfhkmdkdjinaaDoor
set_option linter.unusedVariables false
set_option linter.unusedSimpArgs false
/-- A port that is asked for ticks: how it stands, how often it spoke, how long it was still. -/
def stT (T W k : Nat) : Int := if k < T * W then 1 else 5
def trT (T W k : Nat) : Int := if k < T * W then ((1 + k / W : Nat) : Int) else T
def ilT (T W k : Nat) : Int := if k < T * W then ((k % W : Nat) : Int) else W
theorem tkB (T W k : Nat) (hW : 1 ≤ W) : 0 ≤ ilT T W k ∧ ilT T W k ≤ W ∧ 0 ≤ trT T W k ∧ trT T W k ≤ T ∧ (stT T W k = 1 ∨ stT T W k = 5) := by
  have hm := Nat.mod_lt k hW
  unfold ilT trT stT
  split
  · rename_i h
    have hq : k / W < T := (Nat.div_lt_iff_lt_mul hW).2 h
    generalize k / W = q at *
    generalize k % W = r at *
    omega
  · omega
theorem tkS (T W k : Nat) (hW : 1 ≤ W) :
    (stT T W k = 1 ∧ ilT T W k + 1 < W ∧ stT T W (k + 1) = 1 ∧ ilT T W (k + 1) = ilT T W k + 1 ∧ trT T W (k + 1) = trT T W k) ∨
    (stT T W k = 1 ∧ ¬ ilT T W k + 1 < W ∧ (T : Int) ≤ trT T W k ∧ stT T W (k + 1) = 5 ∧ ilT T W (k + 1) = ilT T W k + 1 ∧ trT T W (k + 1) = trT T W k) ∨
    (stT T W k = 1 ∧ ¬ ilT T W k + 1 < W ∧ ¬ (T : Int) ≤ trT T W k ∧ stT T W (k + 1) = 1 ∧ ilT T W (k + 1) = 0 ∧ trT T W (k + 1) = trT T W k + 1 ∧ ((k + 1 : Nat) : Int) % (W : Int) = 0) ∨
    (stT T W k = 5 ∧ stT T W (k + 1) = 5 ∧ ilT T W (k + 1) = ilT T W k ∧ trT T W (k + 1) = trT T W k) := by
  have hm := Nat.mod_lt k hW
  have hdm := Nat.div_add_mod k W
  by_cases hk : k < T * W
  · have hq : k / W < T := (Nat.div_lt_iff_lt_mul hW).2 hk
    obtain ⟨q, hqe⟩ : ∃ q, q = k / W := ⟨_, rfl⟩
    obtain ⟨r, hre⟩ : ∃ r, r = k % W := ⟨_, rfl⟩
    rw [← hqe, ← hre] at hdm
    rw [← hre] at hm
    rw [← hqe] at hq
    have e1 : stT T W k = 1 := if_pos hk
    have e2 : ilT T W k = (r : Int) := by unfold ilT; rw [if_pos hk, hre]
    have e3 : trT T W k = ((1 + q : Nat) : Int) := by unfold trT; rw [if_pos hk, hqe]
    have hWT : W * (q + 1) ≤ W * T := Nat.mul_le_mul_left W hq
    rw [Nat.mul_add, Nat.mul_one] at hWT
    have hcm : T * W = W * T := Nat.mul_comm _ _
    by_cases hr : r + 1 < W
    · have hk1 : k + 1 < T * W := by omega
      have d1 : (k + 1) / W = q := by
        rw [← hdm, Nat.add_assoc, Nat.mul_add_div hW, Nat.div_eq_of_lt hr, Nat.add_zero]
      have d2 : (k + 1) % W = r + 1 := by
        rw [← hdm, Nat.add_assoc, Nat.mul_add_mod, Nat.mod_eq_of_lt hr]
      refine .inl ⟨e1, by rw [e2]; omega, if_pos hk1, ?_, ?_⟩
      · unfold ilT; rw [if_pos hk1, d2, if_pos hk, ← hre]; omega
      · unfold trT; rw [if_pos hk1, d1, if_pos hk, ← hqe]
    · have hk1 : k + 1 = W * (q + 1) := by rw [Nat.mul_add, Nat.mul_one]; omega
      by_cases ht : T ≤ 1 + q
      · have hTq : T = q + 1 := by omega
        have hn : ¬ k + 1 < T * W := by rw [hk1, hTq, Nat.mul_comm]; omega
        refine .inr (.inl ⟨e1, by rw [e2]; omega, by rw [e3]; omega, if_neg hn, ?_, ?_⟩)
        · unfold ilT; rw [if_neg hn, if_pos hk, ← hre]; omega
        · unfold trT; rw [if_neg hn, if_pos hk, ← hqe]; omega
      · have hlt : W * (q + 1) < W * T := Nat.mul_lt_mul_of_pos_left (by omega) hW
        have hn : k + 1 < T * W := by rw [hk1, hcm]; exact hlt
        have d1 : (k + 1) / W = q + 1 := by rw [hk1, Nat.mul_div_cancel_left _ hW]
        have d2 : (k + 1) % W = 0 := by rw [hk1, Nat.mul_mod_right]
        refine .inr (.inr (.inl ⟨e1, by rw [e2]; omega, by rw [e3]; omega, if_pos hn, ?_, ?_, ?_⟩))
        · unfold ilT; rw [if_pos hn, d2]; rfl
        · unfold trT; rw [if_pos hn, d1, if_pos hk, ← hqe]; omega
        · rw [← Int.natCast_emod, d2]; rfl
  · have hn : ¬ k + 1 < T * W := by omega
    refine .inr (.inr (.inr ⟨if_neg hk, if_neg hn, ?_, ?_⟩))
    · unfold ilT; rw [if_neg hk, if_neg hn]
    · unfold trT; rw [if_neg hk, if_neg hn]
theorem tk0 (T W : Nat) (hT : 1 ≤ T) (hW : 1 ≤ W) : stT T W 0 = 1 ∧ ilT T W 0 = 0 ∧ trT T W 0 = 1 := by
  have h : 0 < T * W := Nat.mul_pos hT hW
  refine ⟨if_pos h, ?_, ?_⟩
  · unfold ilT; rw [if_pos h, Nat.zero_mod]; rfl
  · unfold trT; rw [if_pos h, Nat.zero_div]; rfl
end Go.Proofs.YtocfhkmdkdjinaaDoor

/- PortTries returns true. Printed by wp.py. -/
namespace Go.Proofs.YtocfhkmdkdjinaaDoor
open Go Go.RowKit
set_option linter.unusedVariables false
set_option linter.unusedSimpArgs false
set_option maxRecDepth 100000
set_option maxHeartbeats 8000000
attribute [local irreducible] inR VC RG VCn sq inS lq nq jq Wk
attribute [local simp] portC_len
theorem nmL_portC (S : List UInt8) (T W st id n : Int) (au nm mk : List UInt8) (mh : Bool) (sd : List UInt8) (tr il : Int) : nmL (portC S T W st id n au nm mk mh sd tr il) = [] := rfl
attribute [local simp] nmL_portC
theorem whoP_len : whoP.length = 5 := rfl
theorem stT_5 {T W k : Nat} (h : T * W ≤ k) : stT T W k = 5 ∧ trT T W k = T := ⟨if_neg (by omega), if_neg (by omega)⟩
theorem stT_1 {T W k : Nat} (h : k < T * W) : stT T W k = 1 ∧ trT T W k = 1 + (k : Int) / (W : Int) := ⟨if_pos h, by unfold trT; rw [if_pos h]; simp⟩
attribute [local irreducible] stT trT ilT

namespace UportTries_fc
theorem U : type_of% (@drop_rep UInt8) ∧ type_of% (@drop_rep D) ∧ type_of% (@List.take_zero UInt8) ∧ type_of% (@List.take_zero D) ∧ type_of% @q16_take ∧ type_of% @q16_len ∧ type_of% @q16_fold ∧ type_of% @q16_map ∧ type_of% @decL ∧ type_of% @decI ∧ type_of% @atR_len ∧ type_of% @atO_len ∧ type_of% @atR_sc ∧ type_of% @atR_tk := ⟨(@drop_rep UInt8), (@drop_rep D), (@List.take_zero UInt8), (@List.take_zero D), @q16_take, @q16_len, @q16_fold, @q16_map, @decL, @decI, @atR_len, @atO_len, @atR_sc, @atR_tk⟩
end UportTries_fc
open UportTries_fc
theorem portTries_fc (a b c : Int) : FC Tryd.prog GA 14 [.int .i64 a, .int .i64 b, .int .i64 c] (.bool true) none := by
  refine fi_ 120 [6] ti_eq gpA Tryd.func14 (fun C hE hm hP hrc hrn => ?_)
  have hw1 := wr64 a
  have hw2 := wr64 b
  have hw3 := wr64 c
  refine A_ ?_
  obtain ⟨T, hT⟩ : ∃ T : Nat, (1 : Int) + IntKind.u64.wrap a % 5 = T := ⟨((1 : Int) + IntKind.u64.wrap a % 5).toNat, by omega⟩
  obtain ⟨W, hW⟩ : ∃ W : Nat, (1 : Int) + IntKind.u64.wrap b % 10 = W := ⟨((1 : Int) + IntKind.u64.wrap b % 10).toNat, by omega⟩
  obtain ⟨K, hK⟩ : ∃ K : Nat, IntKind.u64.wrap c % 80 = K := ⟨(IntKind.u64.wrap c % 80).toNat, by omega⟩
  have hT1 : 1 ≤ T := by omega
  have hT2 : T ≤ 5 := by omega
  have hW1 : 1 ≤ W := by omega
  have hW2 : W ≤ 10 := by omega
  have hK2 : K ≤ 80 := by omega
  rw [hT, hW, hK]
  clear hT hW hK hw1 hw2 hw3
  have hTW : T * W ≤ 50 := Nat.le_trans (Nat.mul_le_mul hT2 hW2) (by decide)
  have nf := (pnew_fc [115] T W (by decide) (by omega) (by omega)).any (G := GA)
  have sf := (pstart_fc [115] T W 0 0 0 z16 [] [] false [] 0 0 (by decide)).any (G := GA)
  obtain ⟨t1, t2, t3⟩ := tk0 T W hT1 hW1
  first | refine O_ ?_ | refine OD_ hm ?_
  refine G_ 2 hE ?_
  refine rg_w (sgb_ 33 32) ?_
  refine G_ 3 hE ?_
  refine rc_ hE hP (nf) Tryd.func52 ?_
  refine G_ 200 hE ?_
  first | refine rz ?_ | refine ZD_ ?_
  refine A_ ?_
  first | refine O_ ?_ | refine OD_ hm ?_
  refine rc_ hE hP (ports_fc) Tryd.func53 ?_
  refine G_ 2 hE ?_
  refine GT_ hE (rfl) ?_
  refine GT_ hE (rfl) ?_
  refine G_ 200 hE ?_
  first | refine rz ?_ | refine ZD_ ?_
  refine A_ ?_
  first | refine O_ ?_ | refine OD_ hm ?_
  refine G_ 1 hE ?_
  refine rc_ hE hP (sf) Tryd.func54 ?_
  refine G_ 200 hE ?_
  first | refine rz ?_ | refine ZD_ ?_
  refine A_ ?_
  refine vl (fun k : Nat => ⟨[(0, .int .i64 T), (1, .int .i64 W), (2, .int .i64 K), (6, .bool false), (7, .ptr 37 1 0), (9, .sl 48 1 0 whoP.length), (11, .int .i64 (trT T W k)), (12, .int .i64 ((k : Int) + 1))], [(37, ⟨⟨1, 1, 124⟩, some (.cells (portC [115] T W (stT T W k) 0 0 z16 [] [] false whoP (trT T W k) (ilT T W k)))⟩), (48, ⟨⟨1, 1, whoP.length⟩, some (.bytes whoP)⟩)], []⟩) (fun k => k ≤ K) (fun k => K - k) 0 ?_ (Nat.zero_le _) (fun k hk => ?_)
  · rw [t1, t2, t3]
    exact wk_ hrc
  have hB := tkB T W k hW1
  by_cases hkK : k < K
  · refine A_ ?_
    refine C_ hE (fun hc => ?_) (fun hc => ?_) <;> (try (exfalso; omega))
    refine A_ ?_
    rcases tkS T W k hW1 with ⟨s1, s2, s3, s4, s5⟩ | ⟨s1, s2, s3, s4, s5, s6⟩ | ⟨s1, s2, s3, s4, s5, s6, s7⟩ | ⟨s1, s2, s3, s4⟩
    · have tf := (tick_wait [115] T W 1 0 0 z16 [] [] false whoP (trT T W k) (ilT T W k) rfl (by omega) (by omega) (by omega)).any (G := GA)
      rw [s1]
      first | refine O_ ?_ | refine OD_ hm ?_
      refine G_ 1 hE ?_
      refine rc_ hE hP (tf) Tryd.func55 ?_
      refine G_ 200 hE ?_
      first | refine rz ?_ | refine ZD_ ?_
      refine A_ ?_
      refine lq_n (k + 1) ?_ (by omega) (by omega)
      rw [s3, s4, s5]
      exact wk_ hrc
    · have tf := (tick_lost [115] T W 1 0 0 z16 [] [] false whoP (trT T W k) (ilT T W k) rfl (by omega) (by omega) (by omega) (by omega)).any (G := GA)
      rw [s1]
      first | refine O_ ?_ | refine OD_ hm ?_
      refine G_ 1 hE ?_
      refine rc_ hE hP (tf) Tryd.func55 ?_
      refine G_ 200 hE ?_
      first | refine rz ?_ | refine ZD_ ?_
      refine A_ ?_
      refine lq_n (k + 1) ?_ (by omega) (by omega)
      rw [s4, s5, s6]
      exact wk_ hrc
    · have tf := (tick_say [115] T W 1 0 0 z16 [] [] false whoP (trT T W k) (ilT T W k) rfl (by omega) (by omega) (by omega) (by omega) (by omega) (by omega) (by decide)).any (G := GA)
      rw [s1]
      first | refine O_ ?_ | refine OD_ hm ?_
      refine G_ 1 hE ?_
      refine rc_ hE hP (tf) Tryd.func55 ?_
      refine G_ 200 hE ?_
      first | refine rz ?_ | refine ZD_ ?_
      rw [whoP_len]
      refine A_ ?_
      have hmz : ((k : Int) + 1) % (W : Int) = 0 := s7
      rw [hmz]
      refine vF hE rfl (rfl) ?_
      refine A_ ?_
      refine lq_n (k + 1) ?_ (by omega) (by omega)
      rw [s4, s5, s6]
      exact wk_ hrc
    · have tf := (tick_no [115] T W 5 0 0 z16 [] [] false whoP (trT T W k) (ilT T W k) (by decide)).any (G := GA)
      rw [s1]
      first | refine O_ ?_ | refine OD_ hm ?_
      refine G_ 1 hE ?_
      refine rc_ hE hP (tf) Tryd.func55 ?_
      refine G_ 200 hE ?_
      first | refine rz ?_ | refine ZD_ ?_
      refine A_ ?_
      refine lq_n (k + 1) ?_ (by omega) (by omega)
      rw [s2, s3, s4]
      exact wk_ hrc
  · obtain rfl : k = K := by omega
    refine A_ ?_
    refine C_ hE (fun hc => ?_) (fun hc => ?_) <;> (try (exfalso; omega))
    refine A_ ?_
    by_cases hKW : T * W ≤ k
    · obtain ⟨v1, v2⟩ := stT_5 hKW
      have hKI : (T : Int) * (W : Int) ≤ (k : Int) := by exact_mod_cast hKW
      have sf2 := (pstart_fc [115] T W 5 0 0 z16 [] [] false whoP T (ilT T W k) (by decide)).any (G := GA)
      have pf2 := (pstate_fc [115] T W 1 0 0 z16 [] [] false whoP 1 0).any (G := GA)
      rw [v1, v2]
      refine C_ hE (fun hcc => ?_) (fun hcc => ?_) <;> (try (exfalso; omega))
      refine A_ ?_
      first | refine O_ ?_ | refine OD_ hm ?_
      refine G_ 1 hE ?_
      refine rc_ hE hP (sf2) Tryd.func54 ?_
      refine G_ 200 hE ?_
      first | refine rz ?_ | refine ZD_ ?_
      refine A_ ?_
      first | refine O_ ?_ | refine OD_ hm ?_
      refine G_ 4 hE ?_
      refine GT_ hE (rfl) ?_
      refine GT_ hE (rfl) ?_
      refine G_ 2 hE ?_
      refine GT_ hE (rfl) ?_
      refine rct_ hE hP (pf2) Tryd.func56 (rfl) ?_
      refine G_ 200 hE ?_
      first | refine rz ?_ | refine ZD_ ?_
      refine A_ ?_
      exact ret_
    · obtain ⟨v1, v2⟩ := stT_1 (show k < T * W by omega)
      have hKI : ¬ (T : Int) * (W : Int) ≤ (k : Int) := by exact_mod_cast hKW
      have pf2 := (pstate_fc [115] T W 1 0 0 z16 [] [] false whoP (1 + (k : Int) / (W : Int)) (ilT T W k)).any (G := GA)
      rw [v1, v2]
      refine C_ hE (fun hcc => ?_) (fun hcc => ?_) <;> (try (exfalso; omega))
      refine A_ ?_
      first | refine O_ ?_ | refine OD_ hm ?_
      refine G_ 7 hE ?_
      refine GT_ hE (rfl) ?_
      refine rct_ hE hP (pf2) Tryd.func56 (rfl) ?_
      refine G_ 200 hE ?_
      first | refine rz ?_ | refine ZD_ ?_
      refine A_ ?_
      exact ret_
end Go.Proofs.YtocfhkmdkdjinaaDoor
