/- Pieces that are put together, in plain Lean. -/
import Derived.Test.YtpmbdppppnbmnaaPcM
import Derived.Test.YtpmbdppppnbmnaaPc3
namespace Go.Proofs.Ytpmbdppppnbmnaa
open Go Go.RowKit
set_option linter.unusedVariables false

theorem gb_c (x : UInt8) (l : List UInt8) : gb (x :: l) 0 = x := rfl
theorem take_mid {n : Int} {got r : List UInt8} (h1 : 0 < r.length) (h2 : (got.length : Int) + (r.length : Int) ≤ n) : takeT true n got (64 :: r) = ([], false, 0, true, n, got ++ r) := by
  have h : takeF true n got (64 :: r) = (false, 0, true, n, got ++ r) := by
    unfold takeF
    simp only [gb_c, List.drop_succ_cons, List.drop_zero, List.length_cons]
    rw [if_neg (by rintro (h | ⟨h, _⟩); omega; exact h (by decide)), if_neg (by decide), if_pos trivial]
    unfold takeH
    rw [if_neg (by rintro ((h | ⟨h, _⟩) | ⟨_, h⟩); omega; exact absurd h (by decide); omega)]
    rfl
  unfold takeT
  rw [h]
  rfl
theorem take_last {n : Int} {got r : List UInt8} (h2 : (got.length : Int) + (r.length : Int) = n) : takeT true n got (0 :: r) = (got ++ r, true, 0, false, 0, []) := by
  have h : takeF true n got (0 :: r) = (true, 0, true, n, got ++ r) := by
    unfold takeF
    simp only [gb_c, List.drop_succ_cons, List.drop_zero, List.length_cons]
    rw [if_neg (by rintro (h | ⟨h, _⟩); omega; exact h (by decide)), if_neg (by decide), if_pos trivial]
    unfold takeH
    rw [if_neg (by simp; omega)]
    rfl
  unfold takeT
  rw [h]
  rfl
theorem take_one {f : List UInt8} (h : f.length ≤ 32768) : takeT false 0 [] (0 :: f) = (f, true, 0, false, 0, []) := by
  have h : takeF false 0 [] (0 :: f) = (true, 0, true, (f.length : Int), f) := by
    have e1 : firstN 0 f 0 = f.length := rfl
    have e2 : firstC 0 f 0 = 0 := by
      unfold firstC
      rw [if_neg (by decide), e1, if_neg (by omega)]
    have e3 : firstR 0 f 0 = f := by
      unfold firstR
      rw [if_pos e2]
      rfl
    unfold takeF
    simp only [gb_c, List.drop_succ_cons, List.drop_zero, List.length_cons]
    rw [if_neg (by simp; omega), if_neg (by decide), if_neg (by decide), if_neg (by rw [e2]; simp), e1, e3]
    unfold takeH
    rw [if_neg (by simp)]
    rfl
  unfold takeT
  rw [h]
  rfl
theorem ori_nat (a b : Nat) (ha : a < 4294967296) (hb : b < 4294967296) : orI (a : Int) (b : Int) = ((a ||| b : Nat) : Int) := by
  have h := Nat.or_lt_two_pow (n := 32) ha hb
  show IntKind.i64.wrap ((BitVec.ofInt 64 (a : Int) ||| BitVec.ofInt 64 (b : Int)).toNat : Int) = _
  rw [BitVec.toNat_or, BitVec.ofInt_natCast, BitVec.ofInt_natCast, BitVec.toNat_ofNat, BitVec.toNat_ofNat, Nat.mod_eq_of_lt (by omega), Nat.mod_eq_of_lt (by omega), IntKind.wrap_i64]
  omega
theorem b8_nat (x : Nat) : ((b8 (x : Int)).toNat) = x % 256 := by
  unfold b8
  rw [UInt8.toNat_ofNat']
  omega
theorem be4_n4 {n : Nat} (h : n ≤ 32768) (t : List UInt8) : be4 (n4 n ++ t) = n := by
  have e0 : gb (n4 n ++ t) 0 = b8 ((n / 16777216 : Nat) : Int) := by show b8 ((n : Int) / 16777216) = _; congr 1
  have e1 : gb (n4 n ++ t) 1 = b8 ((n / 65536 : Nat) : Int) := by show b8 ((n : Int) / 65536) = _; congr 1
  have e2 : gb (n4 n ++ t) 2 = b8 ((n / 256 : Nat) : Int) := by show b8 ((n : Int) / 256) = _; congr 1
  have e3 : gb (n4 n ++ t) 3 = b8 (n : Int) := rfl
  unfold be4
  rw [e0, e1, e2, e3, b8_nat, b8_nat, b8_nat, b8_nat, show n / 16777216 % 256 = 0 by omega, show n / 65536 % 256 = 0 by omega]
  have q1 : orI (((0 : Nat) : Int) * 16777216) (((0 : Nat) : Int) * 65536) = ((0 : Nat) : Int) := by decide
  have q2 : orI ((0 : Nat) : Int) (((n / 256 % 256 : Nat) : Int) * 256) = ((n / 256 % 256 : Nat) : Int) * 256 := by
    rw [show ((n / 256 % 256 : Nat) : Int) * 256 = ((n / 256 % 256 * 256 : Nat) : Int) by omega, ori_nat _ _ (by omega) (by omega), Nat.zero_or]
  rw [q1, q2]
  unfold orI
  rw [or16 _ _ (by omega) (by omega)]
  omega
theorem take_head {f t : List UInt8} (h : f.length ≤ 32768) (h1 : 0 < t.length) (h2 : t.length ≤ f.length) : takeT false 0 [] (192 :: (n4 f.length ++ t)) = ([], false, 0, true, (f.length : Int), t) := by
  have h : takeF false 0 [] (192 :: (n4 f.length ++ t)) = (false, 0, true, (f.length : Int), t) := by
    have e1 : firstN 192 (n4 f.length ++ t) 0 = f.length := by unfold firstN; rw [if_neg (by decide)]; exact be4_n4 h t
    have e2 : firstC 192 (n4 f.length ++ t) 0 = 0 := by
      unfold firstC
      rw [if_neg (by decide), e1, if_neg (by omega)]
    have e3 : firstR 192 (n4 f.length ++ t) 0 = t := by
      unfold firstR
      rw [if_pos e2]
      rfl
    unfold takeF
    simp only [gb_c, List.drop_succ_cons, List.drop_zero, List.length_cons]
    rw [if_neg (by rintro (h | ⟨_, h⟩) <;> rw [List.length_append, n4_len] at h <;> omega), if_neg (by decide), if_neg (by decide), if_neg (by rw [e2]; simp), e1, e3]
    unfold takeH
    rw [if_neg (by rintro ((h | ⟨h, _⟩) | ⟨_, h⟩); (simp at h; omega); exact absurd h (by decide); omega)]
    rw [List.nil_append, show decide ((192 : UInt8) &&& 64 = 0) = false by decide]
  unfold takeT
  rw [h]
  simp
/-- What a joiner holds behind i pieces of a flight. -/
def joinS (f : List UInt8) (s i : Nat) : Bool × Int × List UInt8 :=
  if i = 0 ∨ i = (splitL f s).length then (false, 0, []) else (true, (f.length : Int), f.take (s - 5 + (i - 1) * (s - 1)))
theorem pc_at (f : List UInt8) (a n k : Nat) : pc (f.drop a) n k = (f.drop (a + k * n)).take n := by
  unfold pc
  rw [List.drop_drop]
theorem take_pc (f : List UInt8) (a n k : Nat) : f.take (a + k * n) ++ pc (f.drop a) n k = f.take (a + (k + 1) * n) := by
  rw [pc_at, ← List.take_add, Nat.add_mul, Nat.one_mul, Nat.add_assoc]
theorem getD_mid {f : List UInt8} {s i : Nat} (h1 : 16 ≤ s) (h : ¬ f.length ≤ s - 1) (hi : i < splitK f s) : (splitL f s).getD i [] = if i = 0 then hdL f s else pk f s (i - 1) := by
  have hp := splitK_pos h1 h
  rw [splitL_many h, rawI_range _ _ _ hp, List.getD_eq_getElem?_getD, List.getElem?_append_left (by simp; omega)]
  rcases i with _ | i
  · rfl
  · rw [List.getElem?_cons_succ, List.getElem?_map, List.getElem?_range (by omega), if_neg (by omega)]
    rfl
theorem getD_end {f : List UInt8} {s : Nat} (h1 : 16 ≤ s) (h : ¬ f.length ≤ s - 1) : (splitL f s).getD (splitK f s) [] = 0 :: pc (f.drop (s - 5)) (s - 1) (splitK f s - 1) := by
  have hp := splitK_pos h1 h
  rw [splitL_many h, rawE_range _ _ _ hp, List.getD_eq_getElem?_getD, List.getElem?_append_right (by rw [rawI_len, List.length_range]; exact Nat.le_refl _), rawI_len, List.length_range, Nat.sub_self]
  rfl
theorem last_lt {f : List UInt8} {s : Nat} (h1 : 16 ≤ s) (h : ¬ f.length ≤ s - 1) : s - 5 + (splitK f s - 1) * (s - 1) < f.length ∧ f.length ≤ s - 5 + splitK f s * (s - 1) := by
  have hp := splitK_pos h1 h
  have a := (pcN_lt (m := f.length - (s - 5)) (n := s - 1) (k := splitK f s - 1) (by omega)).1 (show splitK f s - 1 < splitK f s by omega)
  have b := mt (pcN_lt (m := f.length - (s - 5)) (n := s - 1) (k := splitK f s) (by omega)).2 (Nat.lt_irrefl _)
  omega
theorem jS0 (f : List UInt8) (s : Nat) : joinS f s 0 = (false, 0, []) := if_pos (.inl rfl)
theorem jSL {f : List UInt8} {s i : Nat} (h : i = (splitL f s).length) : joinS f s i = (false, 0, []) := if_pos (.inr h)
theorem jSm {f : List UInt8} {s i : Nat} (h0 : i ≠ 0) (h : i ≠ (splitL f s).length) : joinS f s i = (true, (f.length : Int), f.take (s - 5 + (i - 1) * (s - 1))) := if_neg (by omega)
theorem join_step {f : List UInt8} {s i : Nat} (h1 : 16 ≤ s) (h3 : f.length ≤ 32768) (hi : i < (splitL f s).length) :
    takeT (joinS f s i).1 (joinS f s i).2.1 (joinS f s i).2.2 ((splitL f s).getD i []) = (if i + 1 = (splitL f s).length then f else [], decide (i + 1 = (splitL f s).length), 0, joinS f s (i + 1)) := by
  by_cases h : f.length ≤ s - 1
  · have hL : (splitL f s).length = 1 := by rw [splitL_one h]; rfl
    obtain rfl : i = 0 := by omega
    rw [jS0, jSL (i := 0 + 1) (by omega), if_pos (by omega), decide_eq_true (show 0 + 1 = (splitL f s).length by omega), splitL_one h]
    exact take_one h3
  · have hL := splitL_len h
    have hp := splitK_pos h1 h
    obtain ⟨hl1, hl2⟩ := last_lt h1 h
    by_cases hk : i = splitK f s
    · subst hk
      rw [jSm (i := splitK f s) (by omega) (by omega), jSL (i := splitK f s + 1) (by omega), if_pos (by omega), decide_eq_true (show splitK f s + 1 = (splitL f s).length by omega), getD_end h1 h]
      have e := take_pc f (s - 5) (s - 1) (splitK f s - 1)
      rw [show splitK f s - 1 + 1 = splitK f s by omega, List.take_of_length_le hl2] at e
      have el := congrArg List.length e
      rw [List.length_append] at el
      show takeT true (f.length : Int) (f.take (s - 5 + (splitK f s - 1) * (s - 1))) _ = _
      rw [take_last (by omega), e]
    · have hi' : i < splitK f s := by omega
      rw [getD_mid h1 h hi', jSm (i := i + 1) (by omega) (by omega), if_neg (show ¬ i + 1 = (splitL f s).length by omega), decide_eq_false (show ¬ i + 1 = (splitL f s).length by omega), Nat.add_sub_cancel]
      by_cases h0 : i = 0
      · subst h0
        rw [if_pos rfl, jS0, Nat.zero_mul, Nat.add_zero]
        exact take_head h3 (by rw [List.length_take]; omega) (by rw [List.length_take]; omega)
      · have hlt : s - 5 + i * (s - 1) ≤ f.length := by
          have := full_lt (f := f) (s := s) (k := i - 1) h1 (by omega)
          rw [List.length_drop, show i - 1 + 1 = i by omega] at this
          have := Nat.mul_pos (show 0 < i by omega) (show 0 < s - 1 by omega)
          omega
        have hpl : (pc (f.drop (s - 5)) (s - 1) (i - 1)).length = s - 1 := pc_full (full_lt h1 (by omega))
        have e := take_pc f (s - 5) (s - 1) (i - 1)
        rw [show i - 1 + 1 = i by omega] at e
        have el := congrArg List.length e
        rw [List.length_append, List.length_take (i := s - 5 + i * (s - 1))] at el
        rw [if_neg h0, jSm h0 (by omega)]
        show takeT true (f.length : Int) (f.take (s - 5 + (i - 1) * (s - 1))) (64 :: pc (f.drop (s - 5)) (s - 1) (i - 1)) = _
        rw [take_mid (by omega) (by omega), e]
theorem joinS_len (f : List UInt8) (s i : Nat) : (joinS f s i).2.2.length ≤ f.length := by
  unfold joinS
  split
  · simp
  · show (f.take _).length ≤ _
    rw [List.length_take]
    omega
theorem splitL_le {f : List UInt8} {s : Nat} (h1 : 16 ≤ s) (i : Nat) : ((splitL f s).getD i []).length ≤ s := by
  by_cases h : f.length ≤ s - 1
  · rw [splitL_one h]
    rcases i with _ | i
    · show f.length + 1 ≤ s
      omega
    · simp
  · have hL := splitL_len h
    rcases Nat.lt_trichotomy i (splitK f s) with hi | hi | hi
    · exact Nat.le_of_eq (splitL_full h1 h hi)
    · subst hi
      rw [getD_end h1 h, List.length_cons]
      unfold pc
      rw [List.length_take]
      omega
    · rw [List.getD_eq_getElem?_getD, List.getElem?_eq_none (by omega)]
      simp
theorem split_ne {f : List UInt8} {s : Int} (h : 0 < (splitP f s).length) : ∃ z : Nat, s = z ∧ 16 ≤ z ∧ z ≤ 4000 ∧ f.length ≤ 32768 ∧ splitP f s = splitL f z ∧ splitE f s = 0 := by
  by_cases he : splitE f s = 0
  · have h0 := he
    unfold splitE at h0
    split at h0
    · cases h0
    · split at h0
      · cases h0
      · refine ⟨s.toNat, by omega, by omega, by omega, by omega, ?_, he⟩
        unfold splitP
        rw [if_pos he]
  · unfold splitP at h
    rw [if_neg he] at h
    exact absurd h (by decide)
end Go.Proofs.Ytpmbdppppnbmnaa
