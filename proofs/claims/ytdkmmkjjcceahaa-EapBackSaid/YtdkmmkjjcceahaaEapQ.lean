/- Plain laws: a packet in form comes back from its bytes; a beginning ends too soon; with a byte more they are none's. -/
import Derived.Test.YtdkmmkjjcceahaaEapN
namespace Go.Proofs.Ytdkmmkjjcceahaa
open Go.RowKit
set_option linter.unusedVariables false
set_option linter.unusedSimpArgs false
attribute [local go_sem ↓] run_slice_l' run_slice_lh' run_slice_h' run_index_str run_slice_str_l run_slice_str_h run_slice_str_lh
attribute [local go_sem] str_size str_append str_toL Lib.run_eql_slice_nil
theorem n2_take {l : List UInt8} {k : Nat} (h : 4 ≤ k) : n2 (l.take k) = n2 l := by
  have e : ∀ i, i < 4 → gb (l.take k) i = gb l i := by
    intro i hi
    rw [gb_def, gb_def, List.getD_eq_getElem?_getD, List.getD_eq_getElem?_getD, List.getElem?_take, if_pos (by omega)]
  simp only [n2, ← gb_def]
  rw [e 2 (by omega), e 3 (by omega)]
theorem n2_snoc {l : List UInt8} {x : UInt8} (h : 4 ≤ l.length) : n2 (l ++ [x]) = n2 l := by
  have e : ∀ i, i < 4 → gb (l ++ [x]) i = gb l i := by
    intro i hi
    rw [gb_def, gb_def, List.getD_eq_getElem?_getD, List.getD_eq_getElem?_getD, List.getElem?_append_left (by omega)]
  simp only [n2, ← gb_def]
  rw [e 2 (by omega), e 3 (by omega)]

theorem pbytes_cases {c i t : Int} {d : List UInt8} (h : psize c i t d.length ≠ 0) :
    (1 ≤ c ∧ c ≤ 2 ∧ 0 ≤ i ∧ i ≤ 255 ∧ 1 ≤ t ∧ t ≤ 255 ∧ d.length ≤ 4091 ∧ pbytes c i t d = b8 c :: b8 i :: b8 ((5 + d.length) / 256) :: b8 ((5 + d.length) % 256) :: b8 t :: d) ∨
    (3 ≤ c ∧ c ≤ 4 ∧ 0 ≤ i ∧ i ≤ 255 ∧ t = 0 ∧ d = [] ∧ pbytes c i t d = [b8 c, b8 i, 0, 4]) := by
  have h' := h
  rw [psize_ne] at h'
  rcases h' with ⟨hi, ⟨hc, ht, ht2, hn⟩ | ⟨hc, rfl, hn⟩⟩
  · left
    refine ⟨by omega, by omega, hi.1, hi.2, ht, ht2, hn, ?_⟩
    rw [pbytes, if_pos (by omega)]
    rfl
  · right
    refine ⟨by omega, by omega, hi.1, hi.2, rfl, List.eq_nil_of_length_eq_zero hn, ?_⟩
    rw [pbytes, if_neg (by omega)]

theorem back {c i t : Int} {d : List UInt8} (h : psize c i t d.length ≠ 0) : readF (pbytes c i t d) = ⟨c, i, t, d, 0⟩ := by
  rcases pbytes_cases h with ⟨h1, h2, h3, h4, h5, h6, h7, e⟩ | ⟨h1, h2, h3, h4, rfl, rfl, e⟩
  · rw [e]
    have g0 : ((b8 c).toNat : Int) = c := b8_toNat (by omega) (by omega)
    have g1 : ((b8 i).toNat : Int) = i := b8_toNat (by omega) (by omega)
    have g2 : ((b8 ((5 + d.length) / 256)).toNat : Int) = (5 + d.length) / 256 := b8_toNat (by omega) (by omega)
    have g3 : ((b8 ((5 + d.length) % 256)).toNat : Int) = (5 + d.length) % 256 := b8_toNat (by omega) (by omega)
    have g4 : ((b8 t).toNat : Int) = t := b8_toNat (by omega) (by omega)
    have hn : n2 (b8 c :: b8 i :: b8 ((5 + d.length) / 256) :: b8 ((5 + d.length) % 256) :: b8 t :: d) = 5 + d.length := by
      simp only [n2, gb_def, List.getD_cons_zero, List.getD_cons_succ]; omega
    have htt : tt (b8 c :: b8 i :: b8 ((5 + d.length) / 256) :: b8 ((5 + d.length) % 256) :: b8 t :: d) = t := by
      rw [tt, if_neg (by simp only [List.length_cons]; omega)]; exact g4
    have hdd : dd (b8 c :: b8 i :: b8 ((5 + d.length) / 256) :: b8 ((5 + d.length) % 256) :: b8 t :: d) = d := by
      rw [dd, if_neg (by simp only [List.length_cons]; omega)]; simp only [List.drop_succ_cons, List.drop_zero]
    have hp : psize c i t d.length = 5 + d.length := by rw [psize, if_pos ⟨h3, h4⟩, if_pos (by omega), if_pos ⟨h5, h6, h7⟩]
    have hok : okP (b8 c :: b8 i :: b8 ((5 + d.length) / 256) :: b8 ((5 + d.length) % 256) :: b8 t :: d) := by
      refine ⟨by rw [hn]; simp only [List.length_cons]; omega, ?_⟩
      rw [htt, hdd]
      simp only [gb_def, List.getD_cons_zero, List.getD_cons_succ]
      rw [g0, g1, hp]
      simp only [List.length_cons]; omega
    rw [readF, if_neg (by rw [hn]; simp only [List.length_cons]; omega), if_pos hok, htt, hdd]
    simp only [gb_def, List.getD_cons_zero, List.getD_cons_succ]
    rw [g0, g1]
  · rw [e]
    have g0 : ((b8 c).toNat : Int) = c := b8_toNat (by omega) (by omega)
    have g1 : ((b8 i).toNat : Int) = i := b8_toNat (by omega) (by omega)
    have hn : n2 [b8 c, b8 i, 0, 4] = 4 := by simp [n2, gb_def]
    have hp : psize c i 0 0 = 4 := by rw [psize, if_pos ⟨h3, h4⟩, if_neg (by omega), if_pos (by omega)]
    have hok : okP [b8 c, b8 i, 0, 4] := by
      refine ⟨hn, ?_⟩
      show psize ((b8 c).toNat : Int) ((b8 i).toNat : Int) 0 0 = 4
      rw [g0, g1, hp]
    rw [readF, if_neg (by rw [hn]; simp), if_pos hok]
    show (⟨((b8 c).toNat : Int), ((b8 i).toNat : Int), 0, [], 0⟩ : Pk) = _
    rw [g0, g1]

theorem pbytes_n2 {c i t : Int} {d : List UInt8} (h : psize c i t d.length ≠ 0) : n2 (pbytes c i t d) = (pbytes c i t d).length ∧ 4 ≤ (pbytes c i t d).length := by
  have hb := back h
  have h4 : 4 ≤ (pbytes c i t d).length := by
    rcases pbytes_cases h with ⟨_, _, _, _, _, _, _, e⟩ | ⟨_, _, _, _, _, _, e⟩ <;> rw [e] <;> simp
  refine ⟨?_, h4⟩
  rw [readF] at hb
  split at hb
  · exact absurd (congrArg Pk.e hb) (by simp)
  · split at hb
    · rename_i ho; exact ho.1
    · exact absurd (congrArg Pk.e hb) (by simp)
theorem back_tail {c i t : Int} {d : List UInt8} (h : psize c i t d.length ≠ 0) {k : Nat} (hk : k < (pbytes c i t d).length) : readF ((pbytes c i t d).take k) = ⟨0, 0, 0, [], 3⟩ := by
  obtain ⟨h1, h2⟩ := pbytes_n2 h
  have hl : ((pbytes c i t d).take k).length = k := by rw [List.length_take]; omega
  rw [readF, if_pos]
  rw [hl]
  by_cases h4 : k < 4
  · exact .inl h4
  · right; rw [n2_take (by omega), h1]; exact hk
theorem back_more {c i t : Int} {d : List UInt8} (h : psize c i t d.length ≠ 0) (x : UInt8) : readF (pbytes c i t d ++ [x]) = ⟨0, 0, 0, [], 2⟩ := by
  obtain ⟨h1, h2⟩ := pbytes_n2 h
  have hl : (pbytes c i t d ++ [x]).length = (pbytes c i t d).length + 1 := by simp
  have hn : n2 (pbytes c i t d ++ [x]) = (pbytes c i t d).length := by rw [n2_snoc h2, h1]
  rw [readF, if_neg (by rw [hl, hn]; omega), if_neg]
  rintro ⟨ho, _⟩
  rw [hl, hn] at ho
  omega
end Go.Proofs.Ytdkmmkjjcceahaa
