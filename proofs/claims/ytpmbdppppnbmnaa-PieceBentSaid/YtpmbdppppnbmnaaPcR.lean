/- The joiner and the reference's, in plain Lean: they tell the same. -/
import Derived.Test.YtpmbdppppnbmnaaPcJ
import Derived.Test.YtpmbdppppnbmnaaPc5
namespace Go.Proofs.Ytpmbdppppnbmnaa
open Go Go.RowKit
set_option linter.unusedVariables false

set_option maxRecDepth 100000 in
theorem hi_all : ∀ n < 256, (UInt8.ofNat n &&& 128 ≠ 0 ↔ 128 ≤ n) ∧ ((UInt8.ofNat n &&& ~~~192 ≠ 0) ↔ (UInt8.ofNat n &&& 63 ≠ 0)) := by decide
theorem hi_iff (f : UInt8) : (f &&& 128 ≠ 0 ↔ rHi f) ∧ ((f &&& ~~~192 ≠ 0) ↔ (f &&& 63 ≠ 0)) := by
  have h := hi_all f.toNat f.toNat_lt
  simp only [UInt8.ofNat_toNat] at h
  refine ⟨h.1.trans ?_, h.2⟩
  unfold rHi
  omega
theorem or_step (a b k : Nat) (hb : b < 2 ^ k) : (a * 2 ^ k) ||| b = a * 2 ^ k + b := by
  have := Nat.shiftLeft_add_eq_or_of_lt (a := a) (b := b) (i := k) hb
  rw [Nat.shiftLeft_eq] at this
  exact this.symm
theorem be4_eq (l : List UInt8) : be4 l = rBe l := by
  have h0 := UInt8.toNat_lt (gb l 0)
  have h1 := UInt8.toNat_lt (gb l 1)
  have h2 := UInt8.toNat_lt (gb l 2)
  have h3 := UInt8.toNat_lt (gb l 3)
  unfold be4 rBe
  generalize (gb l 0).toNat = a at *
  generalize (gb l 1).toNat = b at *
  generalize (gb l 2).toNat = c at *
  generalize (gb l 3).toNat = d at *
  have e1 := or_step a (b * 65536) 24 (by omega)
  have e2 := or_step (a * 256 + b) (c * 256) 16 (by omega)
  have e3 := or_step ((a * 256 + b) * 256 + c) d 8 (by omega)
  rw [show ((a : Int) * 16777216) = ((a * 2 ^ 24 : Nat) : Int) by omega, show ((b : Int) * 65536) = ((b * 65536 : Nat) : Int) by omega, show ((c : Int) * 256) = ((c * 256 : Nat) : Int) by omega,
    ori_nat _ _ (by omega) (by omega), e1, ori_nat _ _ (by omega) (by omega), show a * 2 ^ 24 + b * 65536 = (a * 256 + b) * 2 ^ 16 by omega, e2, ori_nat _ _ (by omega) (by omega), show (a * 256 + b) * 2 ^ 16 + c * 256 = ((a * 256 + b) * 256 + c) * 2 ^ 8 by omega, e3]
  omega
/-- The same answer, the same state. -/
def SameT (x : List UInt8 × Bool × Int × Bool × Int × List UInt8) (y : RT) : Prop :=
  x.2 = y.2 ∧ (x.2.1 = true → x.1 = y.1) ∧ (x.2.1 = false → x.1 = [])
def RelT (x : Bool × Int × Bool × Int × List UInt8) (y : RT) : Prop :=
  (x.2.1 ≠ 0 ∧ y.1 = [] ∧ y.2.1 = false ∧ y.2.2.1 = x.2.1) ∨ (x.2.1 = 0 ∧ y = (x.2.2.2.2, x.1, 0, x.2.2))
theorem takeH_rel (m g : Bool) (n : Int) (f : UInt8) (got r : List UInt8) : RelT (takeH n f got r) (rtakeH g n got r f) := by
  unfold takeH rtakeH
  have e : ((r.length : Int) = 0) ↔ r = [] := by
    rw [← List.length_eq_zero_iff]
    omega
  by_cases h : (n < (got.length : Int) + (r.length : Int) ∨ (f &&& 64 = 0 ∧ (got.length : Int) + (r.length : Int) < n)) ∨ (f &&& 64 ≠ 0 ∧ (r.length : Int) = 0)
  · rw [if_pos h, if_pos (by rw [← e]; exact h)]
    exact .inl ⟨by simp, rfl, rfl, rfl⟩
  · rw [if_neg h, if_neg (by rw [← e]; exact h)]
    exact .inr ⟨rfl, rfl⟩
theorem take_rel (m : Bool) (n : Int) (got b : List UInt8) : RelT (takeF m n got b) (rtakeF m n got b) := by
  obtain ⟨q1, q2⟩ := hi_iff (gb b 0)
  unfold takeF rtakeF
  by_cases hb : b = []
  · subst hb
    rw [if_pos (.inl rfl), if_pos rfl]
    exact .inl ⟨by simp, rfl, rfl, rfl⟩
  have hl := List.length_pos_iff.2 hb
  by_cases h1 : rHi (gb b 0) ∧ ((b.length - 1 : Nat) : Int) < 4
  · rw [if_pos (.inr ⟨q1.2 h1.1, by omega⟩), if_neg hb, if_pos h1]
    exact .inl ⟨by simp, rfl, rfl, rfl⟩
  rw [if_neg (show ¬ ((b.length : Int) = 0 ∨ (gb b 0 &&& 128 ≠ 0 ∧ (b.length : Int) < 5)) by
    rintro (h | ⟨h, h'⟩)
    · omega
    · exact h1 ⟨q1.1 h, by omega⟩), if_neg hb, if_neg h1]
  by_cases h2 : gb b 0 &&& ~~~192 ≠ 0 ∨ (m = true ∧ gb b 0 &&& 128 ≠ 0)
  · rw [if_pos h2, if_pos (.inl (h2.elim (fun h => .inl (q2.1 h)) (fun h => .inr ⟨q1.1 h.2, h.1⟩)))]
    exact .inl ⟨by simp, rfl, rfl, rfl⟩
  rw [if_neg h2]
  by_cases h3 : m = true
  · subst h3
    rw [if_neg (show ¬ ((gb b 0 &&& 63 ≠ 0 ∨ (rHi (gb b 0) ∧ true = true)) ∨ ((true = false ∧ gb b 0 &&& 64 ≠ 0) ∧ ¬ rHi (gb b 0))) by
      rintro ((h | ⟨h, _⟩) | ⟨⟨h, _⟩, _⟩)
      · exact h2 (.inl (q2.2 h))
      · exact h2 (.inr ⟨rfl, q1.2 h⟩)
      · cases h), if_pos rfl, if_pos rfl]
    exact takeH_rel true true _ _ _ _
  · obtain rfl : m = false := by simpa using h3
    rw [if_neg h3, if_neg h3]
    by_cases h4 : rHi (gb b 0)
    · have h5 := q1.2 h4
      have eN : firstN (gb b 0) (b.drop 1) n = rBe (b.drop 1) := by unfold firstN; rw [if_neg h5, be4_eq]
      rw [if_neg (show ¬ ((gb b 0 &&& 63 ≠ 0 ∨ (rHi (gb b 0) ∧ false = true)) ∨ ((false = false ∧ gb b 0 &&& 64 ≠ 0) ∧ ¬ rHi (gb b 0))) by
        rintro ((h | ⟨_, h⟩) | ⟨_, h⟩)
        · exact h2 (.inl (q2.2 h))
        · cases h
        · exact h h4), if_pos h4]
      have eC : firstC (gb b 0) (b.drop 1) n = if 32768 < rBe (b.drop 1) then 4 else 0 := by
        unfold firstC
        rw [if_neg (fun h => h5 h.1), eN]
      rw [eC, eN]
      by_cases h6 : 32768 < rBe (b.drop 1)
      · rw [if_pos h6, if_pos h6, if_pos (by decide)]
        exact .inl ⟨by simp, rfl, rfl, rfl⟩
      · rw [if_neg h6, if_neg h6, if_neg (by decide)]
        have eR : firstR (gb b 0) (b.drop 1) n = (b.drop 1).drop 4 := by
          unfold firstR
          rw [eC, if_neg h6, if_pos rfl, if_neg h5]
        rw [eR]
        exact takeH_rel false false _ _ _ _
    · have h5 : gb b 0 &&& 128 = 0 := Decidable.byContradiction fun h => h4 (q1.1 h)
      by_cases h7 : gb b 0 &&& 64 = 0
      · rw [if_neg (show ¬ ((gb b 0 &&& 63 ≠ 0 ∨ (rHi (gb b 0) ∧ false = true)) ∨ ((false = false ∧ gb b 0 &&& 64 ≠ 0) ∧ ¬ rHi (gb b 0))) by
          rintro ((h | ⟨_, h⟩) | ⟨⟨_, h⟩, _⟩)
          · exact h2 (.inl (q2.2 h))
          · cases h
          · exact h h7), if_neg h4]
        have eN : firstN (gb b 0) (b.drop 1) n = ((b.length - 1 : Nat) : Int) := by unfold firstN; rw [if_pos h5, if_pos h7, List.length_drop]
        have eC : firstC (gb b 0) (b.drop 1) n = if 32768 < ((b.length - 1 : Nat) : Int) then 4 else 0 := by
          unfold firstC
          rw [if_neg (fun h => h.2 h7), eN]
        rw [eC, eN]
        by_cases h6 : 32768 < ((b.length - 1 : Nat) : Int)
        · rw [if_pos h6, if_pos h6, if_pos (by decide)]
          exact .inl ⟨by simp, rfl, rfl, rfl⟩
        · rw [if_neg h6, if_neg h6, if_neg (by decide)]
          have eR : firstR (gb b 0) (b.drop 1) n = b.drop 1 := by
            unfold firstR
            rw [eC, if_neg h6, if_pos rfl, if_pos h5]
          rw [eR]
          exact takeH_rel false false _ _ _ _
      · have eC : firstC (gb b 0) (b.drop 1) n = 2 := by
          unfold firstC
          rw [if_pos ⟨h5, h7⟩]
        rw [eC, if_pos (by decide), if_pos (.inr ⟨⟨rfl, h7⟩, h4⟩)]
        exact .inl ⟨by show (2 : Int) ≠ 0; decide, rfl, rfl, rfl⟩
theorem take_same (m : Bool) (n : Int) (got b : List UInt8) : SameT (takeT m n got b) (rTakeF m n got b) := by
  have h := take_rel m n got b
  unfold takeT rTakeF
  generalize takeF m n got b = x at *
  generalize rtakeF m n got b = y at *
  obtain ⟨x1, x2, x3⟩ := x
  rcases h with ⟨h1, h2, h3, h4⟩ | ⟨h1, rfl⟩
  · obtain ⟨y1, y2, y3, y4⟩ := y
    simp only at h1 h2 h3 h4
    subst h2; subst h3; subst h4
    simp [SameT, h1]
  · simp only at h1
    subst h1
    cases x1 <;> simp [SameT]
/-- How much a joiner may hold. -/
def InvT (m : Bool) (n : Int) (got : List UInt8) : Prop := (m = true → n ≤ 32768) ∧ got.length ≤ 32768
theorem takeH_inv {n : Int} (f : UInt8) {got r : List UInt8} (hn : n ≤ 32768) (h : (takeH n f got r).2.1 = 0) : InvT (takeH n f got r).2.2.1 (takeH n f got r).2.2.2.1 (takeH n f got r).2.2.2.2 := by
  unfold takeH at *
  split at h
  · cases h
  · rename_i h1
    rw [if_neg h1]
    refine ⟨fun _ => hn, ?_⟩
    show (got ++ r).length ≤ 32768
    rw [List.length_append]
    have : ¬ n < (got.length : Int) + (r.length : Int) := fun h => h1 (.inl (.inl h))
    omega
theorem takeF_inv {m : Bool} {n : Int} {got b : List UInt8} (hi : InvT m n got) (h : (takeF m n got b).2.1 = 0) : InvT (takeF m n got b).2.2.1 (takeF m n got b).2.2.2.1 (takeF m n got b).2.2.2.2 := by
  unfold takeF at *
  split at h
  · cases h
  · rename_i h1
    rw [if_neg h1]
    split at h
    · cases h
    · rename_i h2
      rw [if_neg h2]
      split at h
      · rename_i h3
        rw [if_pos h3]
        exact takeH_inv _ (hi.1 h3) h
      · rename_i h3
        rw [if_neg h3]
        split at h
        · rename_i h4
          exact absurd h h4
        · rename_i h4
          rw [if_neg h4]
          refine takeH_inv _ ?_ h
          have h5 : firstC (gb b 0) (b.drop 1) n = 0 := Decidable.byContradiction h4
          unfold firstC at h5
          split at h5
          · cases h5
          · split at h5
            · cases h5
            · omega
theorem take_inv {m : Bool} {n : Int} {got b : List UInt8} (hi : InvT m n got) : InvT (takeT m n got b).2.2.2.1 (takeT m n got b).2.2.2.2.1 (takeT m n got b).2.2.2.2.2 := by
  have h := takeF_inv (b := b) hi
  unfold takeT
  generalize takeF m n got b = x at *
  obtain ⟨x1, x2, x3, x4, x5⟩ := x
  by_cases h0 : x2 = 0
  · cases x1
    · simp only [h0] at h ⊢
      simpa using h
    · simp [h0, InvT]
  · simp [h0, InvT]
end Go.Proofs.Ytpmbdppppnbmnaa
