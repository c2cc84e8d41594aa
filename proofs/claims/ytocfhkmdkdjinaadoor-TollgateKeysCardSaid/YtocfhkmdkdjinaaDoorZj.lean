/- What the claim leans on, text Zj: Wrp, Wr1, Wr2, Wr3. No condition beyond what each lemma states. -/
import Derived.Test.YtocfhkmdkdjinaaDoorZi
import Derived.Test.YtocfhkmdkdjinaaDoorZd
import Derived.Test.YtocfhkmdkdjinaaDoorZt

/- Keys on their way, in plain Lean: what is hidden of what is shown; a key's value, and back, by two readings that tell the same. -/
namespace Go.Proofs.YtocfhkmdkdjinaaDoor
open Go Go.RowKit
set_option linter.unusedVariables false
set_option linter.unusedSimpArgs false

theorem sho_pre (sec beg l : List UInt8) : ∀ d j, ((shoL sec beg l (List.range (j + d))).2).take (16 * j) = (shoL sec beg l (List.range j)).2
  | 0, j => by
    have h := (shoL_len sec beg l (max 16 beg.length) (by omega) (by omega) (List.range j)).2
    rw [List.length_range] at h
    rw [Nat.add_zero]
    exact List.take_of_length_le (by omega)
  | d + 1, j => by
    have ih := sho_pre sec beg l d j
    have h := (shoL_len sec beg l (max 16 beg.length) (by omega) (by omega) (List.range (j + d))).2
    rw [List.length_range] at h
    rw [show j + (d + 1) = (j + d) + 1 by omega, List.range_succ, shoL_s]
    show List.take (16 * j) ((shoL sec beg l (List.range (j + d))).2 ++ _) = _
    rw [List.take_append_of_le_length (by omega), ih]
theorem sho_hid (sec beg l T : List UInt8) (K : Nat) (hl : l.length = 16 * K) (hT : T = (shoL sec beg l (List.range K)).2) : ∀ j, j ≤ K → hidL sec beg T (List.range j) = ((shoL sec beg l (List.range j)).1, l.take (16 * j))
  | 0, _ => by rw [List.range_zero, shoL_0, hidL_0]; simp
  | j + 1, hj => by
    have ih := sho_hid sec beg l T K hl hT j (by omega)
    have hp : (pc l 16 j).length = 16 := pc_len l j (by omega) (by omega)
    have hO := (shoL_len sec beg l (max 16 beg.length) (by omega) (by omega) (List.range j)).2
    rw [List.length_range] at hO
    have hq := sho_pre sec beg l (K - (j + 1)) (j + 1)
    rw [show j + 1 + (K - (j + 1)) = K by omega, ← hT] at hq
    rw [List.range_succ, shoL_s, hidL_s, ih]
    rw [List.range_succ, shoL_s] at hq
    generalize shoL sec beg l (List.range j) = BO at *
    obtain ⟨B, O⟩ := BO
    simp only at hO hq ⊢
    have hX : pc T 16 j = xor16 (md (sec ++ B)) (pc l 16 j) := by
      rw [← pc_dt, hq, ← hO, List.drop_left]
    rw [hX, xor16_twice _ _ hp]
    congr 1
    rw [← pc_str l j, show 16 * (j + 1) = 16 * j + 16 by omega, List.take_add]
def shoB (sec beg l : List UInt8) : List UInt8 := if l.length % 16 = 0 then (shoL sec beg l (List.range (pcN l.length 16))).2 else []
def hidB (sec beg b : List UInt8) : List UInt8 := (hidL sec beg (pad16 b) (List.range (pcN (pad16 b).length 16))).2
theorem hid_length (sec beg b : List UInt8) : (hidB sec beg b).length = (pad16 b).length := hid_len sec beg b
theorem sho_length (sec beg l : List UInt8) (h : l.length % 16 = 0) : (shoB sec beg l).length = l.length := by
  unfold shoB
  rw [if_pos h, (shoL_len sec beg l (max 16 beg.length) (by omega) (by omega) _).2, List.length_range, pcN_16 _ h]
  omega
theorem sho_le (sec beg l : List UInt8) : (shoB sec beg l).length ≤ l.length := by
  by_cases h : l.length % 16 = 0
  · exact Nat.le_of_eq (sho_length sec beg l h)
  · unfold shoB
    rw [if_neg h]
    exact Nat.zero_le _
theorem sho_of_hid (sec beg b : List UInt8) : shoB sec beg (hidB sec beg b) = pad16 b := by
  have h1 := hid_length sec beg b
  have h2 := (pad16_len b).1
  unfold shoB
  rw [if_pos (by omega)]
  exact hid_back sec beg b
theorem hid_iff (sec beg b l : List UInt8) (hl : l.length % 16 = 0) : hidB sec beg b = l ↔ pad16 b = shoB sec beg l := by
  constructor
  · rintro rfl
    exact (sho_of_hid sec beg b).symm
  · intro h
    have hs := sho_length sec beg l hl
    unfold hidB
    rw [h, hs, pcN_16 _ hl]
    have h2 : shoB sec beg l = (shoL sec beg l (List.range (l.length / 16))).2 := by
      unfold shoB
      rw [if_pos hl, pcN_16 _ hl]
    rw [sho_hid sec beg l _ (l.length / 16) (by omega) h2 _ (Nat.le_refl _)]
    exact List.take_of_length_le (by omega)

/-- Whose attribute it is. -/
def vend : List UInt8 := [0, 0, 1, 55]
def kdOk (k : Int) : Bool := decide (k = 16) || decide (k = 17)
/-- A key's value. -/
def wrB (k : Int) (key salt asked sec : List UInt8) : List UInt8 := ((vend ++ [b8 k, b8 (4 + ((hidB sec (asked ++ salt) (b8 (key.length : Int) :: key)).length : Int))]) ++ salt) ++ hidB sec (asked ++ salt) (b8 (key.length : Int) :: key)
def wrC (k : Int) (key salt : List UInt8) : Bool := kdOk k && decide (1 ≤ key.length) && decide (key.length ≤ 200) && decide (128 ≤ (gb salt 0).toNat)
def wrR (k : Int) (key salt asked sec : List UInt8) : List UInt8 × Int := if wrC k key salt = true then (wrB k key salt asked sec, 0) else ([], 1)
/-- Back, as the code reads it. -/
def uwB (v asked sec : List UInt8) : List UInt8 := shoB sec (asked ++ (v.drop 6).take 2) (v.drop 8)
def uwC (v b : List UInt8) : Bool := kdOk ((gb v 4).toNat : Int) && decide (((gb v 5).toNat : Int) = (v.length : Int) - 4) && decide (128 ≤ (gb v 6).toNat) && decide (0 < b.length)
def uwD (b : List UInt8) : Bool := decide (1 ≤ (gb b 0).toNat) && decide ((gb b 0).toNat ≤ 200) && decide ((gb b 0).toNat + 1 ≤ b.length)
def uwE (b : List UInt8) : Bool := decide ((b.drop (1 + (gb b 0).toNat)).length < 16) && decide (b.drop (1 + (gb b 0).toNat) = List.replicate (b.length - (1 + (gb b 0).toNat)) 0)
def unw (v asked sec : List UInt8) : Int × List UInt8 × Int :=
  if (decide (8 < v.length) && decide (v.take 4 = vend)) = false then (0, [], 2)
  else if (uwC v (uwB v asked sec) && uwD (uwB v asked sec) && uwE (uwB v asked sec)) = false then (0, [], 2)
  else ((gb v 4).toNat, ((uwB v asked sec).drop 1).take (gb (uwB v asked sec) 0).toNat, 0)
/-- As the document reads it. -/
def rUn (v asked sec : List UInt8) : Int × List UInt8 × Int :=
  if (decide (24 ≤ v.length) && decide ((v.length - 8) % 16 = 0)) = false then (0, [], 2)
  else if (uwB v asked sec).length < (gb (uwB v asked sec) 0).toNat + 1 then (0, [], 2)
  else if (wrR (gb v 4).toNat (((uwB v asked sec).drop 1).take (gb (uwB v asked sec) 0).toNat) [gb v 6, gb v 7] asked sec).2 ≠ 0 ∨ (wrR (gb v 4).toNat (((uwB v asked sec).drop 1).take (gb (uwB v asked sec) 0).toNat) [gb v 6, gb v 7] asked sec).1 ≠ v then (0, [], 2)
  else ((gb v 4).toNat, ((uwB v asked sec).drop 1).take (gb (uwB v asked sec) 0).toNat, 0)

theorem gb_cons0 (x : UInt8) (l : List UInt8) : gb (x :: l) 0 = x := rfl
theorem two_of (v : List UInt8) (h : 8 ≤ v.length) : (v.drop 6).take 2 = [gb v 6, gb v 7] := by
  apply List.ext_getElem
  · simp; omega
  · intro i h1 h2
    have hi : i < 2 := by simpa using h2
    rw [List.getElem_take, List.getElem_drop]
    rcases i with _ | _ | i
    · simp [gb, List.getD_eq_getElem?_getD, show 6 < v.length by omega]
    · simp [gb, List.getD_eq_getElem?_getD, show 7 < v.length by omega]
    · omega
/-- The parts of a value. -/
theorem split_v (v : List UInt8) (h : 8 ≤ v.length) : v = ((v.take 4 ++ [gb v 4, gb v 5]) ++ [gb v 6, gb v 7]) ++ v.drop 8 := by
  have e1 : v = v.take 8 ++ v.drop 8 := (List.take_append_drop 8 v).symm
  have e2 : v.take 8 = v.take 4 ++ [gb v 4, gb v 5, gb v 6, gb v 7] := by
    apply List.ext_getElem
    · simp; omega
    · intro i h1 h2
      have hi : i < 8 := by simp at h1; omega
      rw [List.getElem_take]
      by_cases h4 : i < 4
      · rw [List.getElem_append_left (by simp; omega), List.getElem_take]
      · rw [List.getElem_append_right (by simp; omega)]
        have hl : (v.take 4).length = 4 := by simp; omega
        simp only [hl]
        rcases (show i = 4 ∨ i = 5 ∨ i = 6 ∨ i = 7 by omega) with rfl | rfl | rfl | rfl <;> simp [gb, List.getD_eq_getElem?_getD, show 4 < v.length by omega, show 5 < v.length by omega, show 6 < v.length by omega, show 7 < v.length by omega]
  rw [e2] at e1
  refine e1.trans ?_
  simp
theorem pad16_eq (b s : List UInt8) (hs : s.length % 16 = 0) (h0 : 0 < s.length) (n : Nat) (hn : n < s.length) (hb : b = s.take (n + 1)) : pad16 b = s ↔ (s.drop (1 + n)).length < 16 ∧ s.drop (1 + n) = List.replicate (s.length - (1 + n)) 0 := by
  have hbl : b.length = n + 1 := by rw [hb, List.length_take]; omega
  have hsp : s = b ++ s.drop (1 + n) := by rw [hb, Nat.add_comm 1 n]; exact (List.take_append_drop _ _).symm
  unfold pad16
  rw [hbl]
  constructor
  · intro h
    have h2 : b ++ List.replicate ((16 - (n + 1) % 16) % 16) 0 = b ++ s.drop (1 + n) := h.trans hsp
    have h3 := List.append_cancel_left h2
    have h4 : (s.drop (1 + n)).length = (16 - (n + 1) % 16) % 16 := by rw [← h3, List.length_replicate]
    rw [List.length_drop] at h4 ⊢
    exact ⟨by omega, by rw [← h3]; congr 1; omega⟩
  · rintro ⟨h1, h2⟩
    rw [List.length_drop] at h1
    have h3 : (16 - (n + 1) % 16) % 16 = s.length - (1 + n) := by omega
    rw [h3, ← h2]
    exact hsp.symm
theorem un_same (v asked sec : List UInt8) (ha : asked.length = 16) : unw v asked sec = rUn v asked sec := by
  unfold unw rUn
  by_cases h24 : 24 ≤ v.length ∧ (v.length - 8) % 16 = 0
  · have h8 : 8 ≤ v.length := by omega
    have h8' : 8 < v.length := by omega
    have hs0 : (uwB v asked sec).length = v.length - 8 := by
      unfold uwB
      rw [sho_length _ _ _ (by rw [List.length_drop]; exact h24.2), List.length_drop]
    have c24 : (decide (24 ≤ v.length) && decide ((v.length - 8) % 16 = 0)) = true := by simp [h24]
    rw [c24, if_neg (show ¬ (true = false) by simp)]
    have hB : uwB v asked sec = shoB sec (asked ++ [gb v 6, gb v 7]) (v.drop 8) := by unfold uwB; rw [two_of v h8]
    have hsv := split_v v h8
    obtain ⟨s, hs⟩ : ∃ s, s = uwB v asked sec := ⟨_, rfl⟩
    rw [← hs] at hs0 hB ⊢
    obtain ⟨n, hn⟩ : ∃ n, n = (gb s 0).toNat := ⟨_, rfl⟩
    rw [← hn]
    have hn256 : n < 256 := by rw [hn]; exact UInt8.toNat_lt _
    by_cases hlong : s.length < n + 1
    · rw [if_pos hlong]
      split
      · rfl
      · have hD : uwD s = false := by unfold uwD; rw [← hn]; simp; omega
        rw [hD, Bool.and_false, Bool.false_and, if_pos rfl]
    · rw [if_neg hlong]
      have hkl : ((s.drop 1).take n).length = n := by rw [List.length_take, List.length_drop]; omega
      have hcons : b8 (((s.drop 1).take n).length : Int) :: (s.drop 1).take n = s.take (n + 1) := by
        rw [hkl, hn, b8_nat, ← hn]
        rcases s with _ | ⟨x, s⟩
        · simp at hs0; omega
        · rw [gb_cons0]; simp
      have hpad := pad16_eq (s.take (n + 1)) s (by rw [hs0]; exact h24.2) (by omega) n (by omega) rfl
      have hiff := hid_iff sec (asked ++ [gb v 6, gb v 7]) (s.take (n + 1)) (v.drop 8) (by rw [List.length_drop]; exact h24.2)
      rw [← hB] at hiff
      have hgs : gb [gb v 6, gb v 7] 0 = gb v 6 := rfl
      -- the conditions, both ways
      have key : ((wrR (gb v 4).toNat ((s.drop 1).take n) [gb v 6, gb v 7] asked sec).2 ≠ 0 ∨ (wrR (gb v 4).toNat ((s.drop 1).take n) [gb v 6, gb v 7] asked sec).1 ≠ v) ↔ ¬ ((decide (8 < v.length) && decide (v.take 4 = vend)) = true ∧ (uwC v s && uwD s && uwE s) = true) := by
        have hC : wrC (gb v 4).toNat ((s.drop 1).take n) [gb v 6, gb v 7] = true ↔ kdOk (gb v 4).toNat = true ∧ 1 ≤ n ∧ n ≤ 200 ∧ 128 ≤ (gb v 6).toNat := by
          unfold wrC
          rw [hkl, hgs]
          simp [and_assoc]
        have hU : (uwC v s && uwD s && uwE s) = true ↔ (kdOk (gb v 4).toNat = true ∧ ((gb v 5).toNat : Int) = (v.length : Int) - 4 ∧ 128 ≤ (gb v 6).toNat) ∧ (1 ≤ n ∧ n ≤ 200) ∧ pad16 (s.take (n + 1)) = s := by
          unfold uwC uwD uwE
          rw [← hn, hpad]
          simp only [Bool.and_eq_true, decide_eq_true_eq]
          constructor
          · rintro ⟨⟨⟨⟨⟨a, b⟩, c⟩, d⟩, ⟨e, f⟩, g⟩, h, i⟩; exact ⟨⟨a, b, c⟩, ⟨e, f⟩, h, i⟩
          · rintro ⟨⟨a, b, c⟩, ⟨e, f⟩, h, i⟩; exact ⟨⟨⟨⟨⟨a, b⟩, c⟩, by omega⟩, ⟨e, f⟩, by omega⟩, h, i⟩
        by_cases hc : wrC (gb v 4).toNat ((s.drop 1).take n) [gb v 6, gb v 7] = true
        · have hc' := hC.1 hc
          unfold wrR
          rw [if_pos hc]
          simp only [ne_eq, not_true_eq_false, false_or]
          refine not_congr ?_
          rw [hU]
          unfold wrB
          rw [hcons, b8_nat]
          obtain ⟨h, hh⟩ : ∃ h, h = hidB sec (asked ++ [gb v 6, gb v 7]) (s.take (n + 1)) := ⟨_, rfl⟩
          have hhl := hid_length sec (asked ++ [gb v 6, gb v 7]) (s.take (n + 1))
          have hpl := pad16_len (s.take (n + 1))
          rw [← hh] at hiff hhl ⊢
          constructor
          · intro he
            have he2 := he.trans hsv
            have hlen : ((vend ++ [gb v 4, b8 (4 + (h.length : Int))]) ++ [gb v 6, gb v 7]).length = ((v.take 4 ++ [gb v 4, gb v 5]) ++ [gb v 6, gb v 7]).length := by simp [vend]; omega
            obtain ⟨e1, e2⟩ := List.append_inj he2 hlen
            obtain ⟨e3, _⟩ := List.append_inj e1 (by simp [vend]; omega)
            obtain ⟨e4, e5⟩ := List.append_inj e3 (by simp [vend]; omega)
            have e6 : b8 (4 + (h.length : Int)) = gb v 5 := by injection e5 with _ e5; injection e5
            have hvl : h.length = v.length - 8 := by rw [e2, List.length_drop]
            have htl : (s.take (n + 1)).length = n + 1 := by rw [List.length_take]; omega
            refine ⟨by simp [h8', ← e4], ⟨hc'.1, ?_, hc'.2.2.2⟩, ⟨hc'.2.1, hc'.2.2.1⟩, hiff.1 e2⟩
            rw [← e6, show (4 : Int) + (h.length : Int) = ((4 + h.length : Nat) : Int) by omega]
            unfold b8
            have : 4 + h.length < 256 := by omega
            simp
            omega
          · rintro ⟨q1, ⟨q2, q3, q4⟩, q5, q6⟩
            have e2 := hiff.2 q6
            have hvl : h.length = v.length - 8 := by rw [e2, List.length_drop]
            simp only [Bool.and_eq_true, decide_eq_true_eq] at q1
            have e6 : b8 (4 + (h.length : Int)) = gb v 5 := by
              rw [show (4 : Int) + (h.length : Int) = ((gb v 5).toNat : Int) by omega, b8_nat]
            rw [e6, ← q1.2, e2]
            exact hsv.symm
        · have hc' := fun x => hc (hC.2 x)
          unfold wrR
          rw [if_neg hc]
          constructor
          · rintro _ ⟨_, q⟩
            rw [hU] at q
            exact hc' ⟨q.1.1, q.2.1.1, q.2.1.2, q.1.2.2⟩
          · intro _
            exact .inl (by decide)
      by_cases hk : (decide (8 < v.length) && decide (v.take 4 = vend)) = true ∧ (uwC v s && uwD s && uwE s) = true
      · rw [if_neg (by rw [hk.1]; simp), if_neg (by rw [hk.2]; simp), if_neg (fun h => (key.1 h) hk)]
      · rw [if_pos (key.2 hk)]
        by_cases h1 : (decide (8 < v.length) && decide (v.take 4 = vend)) = true
        · rw [if_neg (by rw [h1]; simp), if_pos (by
            have : ¬ (uwC v s && uwD s && uwE s) = true := fun h => hk ⟨h1, h⟩
            simpa using this)]
        · rw [if_pos (by simpa using h1)]
  · rw [show (decide (24 ≤ v.length) && decide ((v.length - 8) % 16 = 0)) = false by
      rcases Nat.lt_or_ge v.length 24 with h | h
      · simp [show ¬ 24 ≤ v.length by omega]
      · simp [show ¬ (v.length - 8) % 16 = 0 from fun e => h24 ⟨h, e⟩]]
    rw [if_pos rfl]
    split
    · rfl
    · rename_i h1
      have h8 : 8 < v.length := by
        rcases Nat.lt_or_ge 8 v.length with h | h
        · exact h
        · exact absurd (by simp [show ¬ 8 < v.length by omega]) h1
      have hb : (uwB v asked sec).length = 0 := by
        unfold uwB shoB
        rw [if_neg (by rw [List.length_drop]; intro e; exact h24 ⟨by omega, e⟩)]
        rfl
      rw [if_pos (by unfold uwC; rw [hb]; simp)]
/-- What is wrapped is unwrapped. -/
theorem un_wr (k : Int) (key salt asked sec : List UInt8) (ha : asked.length = 16) (hs : salt.length = 2) (hc : wrC k key salt = true) : unw (wrB k key salt asked sec) asked sec = (k, key, 0) := by
  rw [un_same _ _ _ ha]
  unfold wrC kdOk at hc
  simp only [Bool.and_eq_true, Bool.or_eq_true, decide_eq_true_eq] at hc
  obtain ⟨⟨⟨c1, c2⟩, c3⟩, c4⟩ := hc
  obtain ⟨x, y, rfl⟩ : ∃ x y, salt = [x, y] := by
    rcases salt with _ | ⟨x, _ | ⟨y, _ | ⟨z, r⟩⟩⟩
    · simp at hs
    · simp at hs
    · exact ⟨x, y, rfl⟩
    · simp at hs
  obtain ⟨h, hh⟩ : ∃ h, h = hidB sec (asked ++ [x, y]) (b8 (key.length : Int) :: key) := ⟨_, rfl⟩
  have hhl := hid_length sec (asked ++ [x, y]) (b8 (key.length : Int) :: key)
  have hpl := pad16_len (b8 (key.length : Int) :: key)
  rw [← hh] at hhl
  simp only [List.length_cons] at hpl
  have hv : wrB k key [x, y] asked sec = 0 :: 0 :: 1 :: 55 :: b8 k :: b8 (4 + (h.length : Int)) :: x :: y :: h := by unfold wrB; rw [← hh]; rfl
  obtain ⟨v, hvv⟩ : ∃ v, v = wrB k key [x, y] asked sec := ⟨_, rfl⟩
  rw [← hvv] at hv ⊢
  have hvl : v.length = 8 + h.length := by rw [hv]; simp; omega
  have g4 : gb v 4 = b8 k := by rw [hv]; rfl
  have g6 : gb v 6 = x := by rw [hv]; rfl
  have g7 : gb v 7 = y := by rw [hv]; rfl
  have hd : v.drop 8 = h := by rw [hv]; rfl
  have hB : uwB v asked sec = pad16 (b8 (key.length : Int) :: key) := by
    unfold uwB
    rw [two_of v (by omega), g6, g7, hd, hh, sho_of_hid]
  have hb0 : gb (pad16 (b8 (key.length : Int) :: key)) 0 = b8 (key.length : Int) := rfl
  have hkn : (b8 (key.length : Int)).toNat = key.length := by
    unfold b8
    simp
    omega
  have hkt : ((pad16 (b8 (key.length : Int) :: key)).drop 1).take key.length = key := by
    unfold pad16
    rw [List.cons_append, List.drop_succ_cons, List.drop_zero, List.take_left]
  have hk4 : ((b8 k).toNat : Int) = k := by
    rcases c1 with rfl | rfl <;> rfl
  unfold rUn
  rw [hB, hb0, hkn, hkt, g4, g6, g7, hk4]
  rw [if_neg (by simp; omega), if_neg (by omega), if_neg]
  have hw : wrR k key [x, y] asked sec = (v, 0) := by
    unfold wrR wrC kdOk
    rw [if_pos (by simp [c1, c2, c3, c4]), ← hvv]
  rw [hw]
  simp
end Go.Proofs.YtocfhkmdkdjinaaDoor

/- wrap's isKind, Wrap; the reference's Wrap. Printed by wp.py. -/
namespace Go.Proofs.YtocfhkmdkdjinaaDoor
open Go Go.RowKit
set_option linter.unusedVariables false
set_option linter.unusedSimpArgs false
set_option maxRecDepth 100000
set_option maxHeartbeats 4000000
attribute [local irreducible] inR VC RG VCn sq inS lq nq jq Wk rq
theorem Concat2_fc (p q : List UInt8) (hb : p.length + q.length ≤ 100000000000) : FC Tryd.prog GE 70 [.rof 1 [p, q].length (fun i _ => .rob ([p, q].getD i []))] (.ownb (p ++ q)) none := by
  have h := Concat_fc [p, q] (by simp) (by simpa using hb)
  rw [show [p, q].flatten = p ++ q by simp] at h
  exact h
theorem Concat4_fc (p q r s : List UInt8) (hb : p.length + q.length + r.length + s.length ≤ 100000000000) : FC Tryd.prog GE 70 [.rof 1 [p, q, r, s].length (fun i _ => .rob ([p, q, r, s].getD i []))] (.ownb (((p ++ q) ++ r) ++ s)) none := by
  have h := Concat_fc [p, q, r, s] (by simp) (by simp; omega)
  rw [show [p, q, r, s].flatten = ((p ++ q) ++ r) ++ s by simp] at h
  exact h
theorem wrR_no {k : Int} {key salt asked sec : List UInt8} (h : wrC k key salt = false) : wrR k key salt asked sec = ([], 1) := by unfold wrR; rw [if_neg (by rw [h]; simp)]
theorem wrR_yes {k : Int} {key salt asked sec : List UInt8} (h : wrC k key salt = true) : wrR k key salt asked sec = (wrB k key salt asked sec, 0) := by unfold wrR; rw [if_pos h]
theorem HideB_fc (sec beg b : List UInt8) (h1 : sec.length ≤ 100000) (h2 : beg.length ≤ 100000) (h3 : b.length ≤ 100000) : FC Tryd.prog GO 69 [.rob sec, .rob beg, .rob b] (.ownb (hidB sec beg b)) none := Hide_fc sec beg b h1 h2 h3
theorem ShowB_fc (sec beg l : List UInt8) (h1 : sec.length ≤ 100000) (h2 : beg.length ≤ 100000) (h3 : l.length ≤ 100000) : FC Tryd.prog GO 79 [.rob sec, .rob beg, .rob l] (.ownb (shoB sec beg l)) none := Show_fc sec beg l h1 h2 h3
theorem rHideB_fc (sec beg b : List UInt8) (h1 : sec.length ≤ 100000) (h2 : beg.length ≤ 100000) (h3 : b.length ≤ 100000) : FC Tryd.prog GE 81 [.str sec, .str beg, .str b, .bool false] (.str (hidB sec beg b)) none := rHide_fc sec beg b h1 h2 h3
theorem rShowB_fc (sec beg l : List UInt8) (h1 : sec.length ≤ 100000) (h2 : beg.length ≤ 100000) (h3 : l.length ≤ 100000) : FC Tryd.prog GE 81 [.str sec, .str beg, .str l, .bool true] (.str (shoB sec beg l)) none := rShow_fc sec beg l h1 h2 h3
theorem wrB_def (k : Int) (key salt asked sec : List UInt8) : wrB k key salt asked sec = ((vend ++ [b8 k, b8 (4 + ((hidB sec (asked ++ salt) (b8 (key.length : Int) :: key)).length : Int))]) ++ salt) ++ hidB sec (asked ++ salt) (b8 (key.length : Int) :: key) := rfl
attribute [local irreducible] md hidB shoB pad16 wrB

namespace Ukind_fc
theorem U : type_of% @md_take ∧ type_of% @md_len ∧ type_of% (@drop_rep UInt8) ∧ type_of% (@drop_rep D) ∧ type_of% (@List.take_zero UInt8) ∧ type_of% (@List.take_zero D) ∧ type_of% @q16_take ∧ type_of% @q2_take ∧ type_of% @q16_len ∧ type_of% @q2_len := ⟨@md_take, @md_len, (@drop_rep UInt8), (@drop_rep D), (@List.take_zero UInt8), (@List.take_zero D), @q16_take, @q2_take, @q16_len, @q2_len⟩
end Ukind_fc
open Ukind_fc
theorem kind_fc (k : Int) : FC Tryd.prog GE 68 [.int .i64 k] (.bool (kdOk k)) none := by
  refine fi_ 9 [2] ti_eq gpE Tryd.func68 (fun C hE hm hP hrc hrn => ?_)
  refine A_ ?_
  exact ret_ (h := by (first | exact Mat.tnil | apply mat1 rfl | apply mat2 rfl rfl | apply mat3 rfl rfl rfl) <;> (repeat' (first | exact .tnil | exact mat_eq rfl rfl | apply mat_i | apply mat_bl | apply mat_u8 | apply mat_u32 | apply mat_st | apply mat_ab | apply mat_rbe | apply mat_nrb | apply mat_nob | exact mat_nos rfl rfl | exact mat_rf0 rfl | exact mat_trob | (apply mat_rf rfl rfl rfl) | refine mat_slf (e := 1) rfl rfl rfl rfl ?_ ?_ ?_ (by first | exact fr0_rob _ | exact fr0_str _ | exact fr0_str _) | (apply mat_sls rfl rfl rfl rfl rfl rfl) | exact mat_pf rfl rfl rfl rfl rfl | (apply mat_s0 rfl rfl rfl; (· first | rfl | (simp <;> fail) | (simp; omega) | omega)) | (apply mat_r0 rfl rfl rfl; (· first | rfl | (simp <;> fail) | (simp; omega) | omega)) | apply mat_sl rfl rfl rfl | apply mat_rb rfl rfl rfl | apply mat_p rfl rfl rfl rfl | apply mc)) <;> (first | rfl | assumption | (simp only [Z, U, Int.cast_ofNat_Int, UInt8.reduceToNat, UInt32.reduceToNat, Nat.reduceAdd, Nat.reduceMul, Nat.reduceSub, Nat.reduceLeDiff, Int.reduceToNat, Int.reducePow, Nat.reducePow] <;> fail) | (simp [kdOk, *] <;> fail) | (simp_all [kdOk] <;> fail) | (simp <;> fail) | omega | (simp [List.take_of_length_le] <;> fail)))

theorem wrap_fc (k : Int) (key salt asked sec : List UInt8) (h1 : key.length ≤ 100000) (h2 : sec.length ≤ 100000) : FC Tryd.prog GO 19 [.int .i64 k, .rob key, .aggb (q2 salt), .aggb (q16 asked), .rob sec] (.tup [.ownb (wrR k key (q2 salt) (q16 asked) sec).1, .int .i64 (wrR k key (q2 salt) (q16 asked) sec).2]) none := by
  refine fi_ 56 [10, 11] ti_eq gpO Tryd.func19 (fun C hE hm hP hrc hrn => ?_)
  refine A_ ?_
  first | refine O_ ?_ | refine OD_ hm ?_
  refine G_ 200 hE ?_
  refine rc_ hE hP ((kind_fc k).any) Tryd.func68 ?_
  refine G_ 200 hE ?_
  first | refine rz ?_ | refine ZD_ ?_
  refine A_ ?_
  refine C_ hE (fun hc => ?_) (fun hc => ?_) <;> (try (exfalso; omega))
  · have hw : wrC k key (q2 salt) = false := by
      unfold wrC
      rcases hc with ((h | h) | h) | h
      · rw [h]; rfl
      · rw [show decide (1 ≤ key.length) = false from decide_eq_false (by omega)]; simp
      · rw [show decide (key.length ≤ 200) = false from decide_eq_false (by omega)]; simp
      · rw [show decide (128 ≤ (gb (q2 salt) 0).toNat) = false from decide_eq_false (by omega)]; simp
    rw [wrR_no hw]
    refine A_ ?_
    exact ret_
  · have hw : wrC k key (q2 salt) = true := by
      unfold wrC
      rw [hc.1.1.1, show decide (1 ≤ key.length) = true from decide_eq_true (by omega), show decide (key.length ≤ 200) = true from decide_eq_true (by omega), show decide (128 ≤ (gb (q2 salt) 0).toNat) = true from decide_eq_true (by omega)]
      rfl
    have hle : key.length ≤ 200 := by omega
    rw [wrR_yes hw]
    clear hc hw
    refine A_ ?_
    first | refine O_ ?_ | refine OD_ hm ?_
    refine G_ 200 hE ?_
    refine rc_ hE hP ((Concat2_fc (q16 asked) (q2 salt) (by simp [q16_len, q2_len])).any) Tryd.func70 ?_
    refine G_ 200 hE ?_
    refine rc_ hE hP (HideB_fc sec (q16 asked ++ q2 salt) (b8 (key.length : Int) :: key) h2 (by simp [q16_len, q2_len]) (by simp; omega)) Tryd.func69 ?_
    refine G_ 200 hE ?_
    first | refine rz ?_ | refine ZD_ ?_
    have hhl : (hidB sec (q16 asked ++ q2 salt) (b8 (key.length : Int) :: key)).length ≤ 300 := by
      rw [hid_length]
      have := pad16_len (b8 (key.length : Int) :: key)
      simp only [List.length_cons] at this
      omega
    rw [wrB_def]
    generalize hidB sec (q16 asked ++ q2 salt) (b8 (key.length : Int) :: key) = H at *
    have fc4 := (Concat4_fc vend [b8 k, b8 (4 + (H.length : Int))] (q2 salt) H (by simp [q2_len, vend]; omega)).any (G := GO)
    generalize vend ++ [b8 k, b8 (4 + (H.length : Int))] ++ q2 salt ++ H = W at fc4 ⊢
    refine A_ ?_
    first | refine O_ ?_ | refine OD_ hm ?_
    refine G_ 200 hE ?_
    refine rc_ hE hP (fc4) Tryd.func70 ?_
    refine G_ 200 hE ?_
    first | refine rz ?_ | refine ZD_ ?_
    refine A_ ?_
    exact ret_

theorem rwrap_fc (k : Int) (key salt asked sec : List UInt8) (h1 : key.length ≤ 100000) (h2 : sec.length ≤ 100000) : FC Tryd.prog GE 26 [.int .i64 k, .str key, .aggb (q2 salt), .aggb (q16 asked), .str sec] (.tup [.str (wrR k key (q2 salt) (q16 asked) sec).1, .int .i64 (wrR k key (q2 salt) (q16 asked) sec).2]) none := by
  refine fi_ 62 [10, 11] ti_eq gpE Tryd.func26 (fun C hE hm hP hrc hrn => ?_)
  refine A_ ?_
  refine C_ hE (fun hc => ?_) (fun hc => ?_) <;> (try (exfalso; omega))
  · have hw : wrC k key (q2 salt) = false := by
      unfold wrC
      rcases hc with ((h | h) | h) | h
      · rw [show kdOk k = false by unfold kdOk; rw [decide_eq_false (show ¬ k = 16 by omega), decide_eq_false (show ¬ k = 17 by omega)]; rfl]; rfl
      · rw [show decide (1 ≤ key.length) = false from decide_eq_false (by omega)]; simp
      · rw [show decide (key.length ≤ 200) = false from decide_eq_false (by omega)]; simp
      · rw [show decide (128 ≤ (gb (q2 salt) 0).toNat) = false from decide_eq_false (by omega)]; simp
    rw [wrR_no hw]
    refine A_ ?_
    exact ret_
  · have hw : wrC k key (q2 salt) = true := by
      unfold wrC
      have hk : kdOk k = true := by
        unfold kdOk
        by_cases h16 : k = 16
        · rw [decide_eq_true h16]; rfl
        · have h17 : k = 17 := by omega
          rw [decide_eq_true h17, Bool.or_true]
      rw [hk, show decide (1 ≤ key.length) = true from decide_eq_true (by omega), show decide (key.length ≤ 200) = true from decide_eq_true (by omega), show decide (128 ≤ (gb (q2 salt) 0).toNat) = true from decide_eq_true (by omega)]
      rfl
    have hle : key.length ≤ 200 := by omega
    rw [wrR_yes hw]
    clear hc hw
    refine A_ ?_
    first | refine O_ ?_ | refine OD_ hm ?_
    refine G_ 200 hE ?_
    refine rc_ hE hP (rHideB_fc sec (q16 asked ++ q2 salt) (b8 (key.length : Int) :: key) h2 (by simp [q16_len, q2_len]) (by simp; omega)) Tryd.func81 ?_
    refine G_ 200 hE ?_
    first | refine rz ?_ | refine ZD_ ?_
    have hhl : (hidB sec (q16 asked ++ q2 salt) (b8 (key.length : Int) :: key)).length ≤ 300 := by
      rw [hid_length]
      have := pad16_len (b8 (key.length : Int) :: key)
      simp only [List.length_cons] at this
      omega
    rw [wrB_def]
    generalize hidB sec (q16 asked ++ q2 salt) (b8 (key.length : Int) :: key) = H at *
    refine A_ ?_
    exact ret_
end Go.Proofs.YtocfhkmdkdjinaaDoor

/- wrap's Unwrap; the reference's Unwrap. Printed by wp.py. -/
namespace Go.Proofs.YtocfhkmdkdjinaaDoor
open Go Go.RowKit
set_option linter.unusedVariables false
set_option linter.unusedSimpArgs false
set_option maxRecDepth 100000
set_option maxHeartbeats 4000000
attribute [local irreducible] inR VC RG VCn sq inS lq nq jq Wk rq
theorem unw_no {v asked sec : List UInt8} (h : (decide (8 < v.length) && decide (v.take 4 = vend)) = false ∨ (uwC v (uwB v asked sec) && uwD (uwB v asked sec) && uwE (uwB v asked sec)) = false) : unw v asked sec = (0, [], 2) := by
  unfold unw
  rcases h with h | h
  · rw [if_pos h]
  · by_cases h1 : (decide (8 < v.length) && decide (v.take 4 = vend)) = false
    · rw [if_pos h1]
    · rw [if_neg h1, if_pos h]
theorem unw_yes {v asked sec : List UInt8} (h : (decide (8 < v.length) && decide (v.take 4 = vend)) = true) (h' : (uwC v (uwB v asked sec) && uwD (uwB v asked sec) && uwE (uwB v asked sec)) = true) : unw v asked sec = (((gb v 4).toNat : Int), ((uwB v asked sec).drop 1).take (gb (uwB v asked sec) 0).toNat, 0) := by
  unfold unw
  rw [if_neg (by rw [h]; simp), if_neg (by rw [h']; simp)]
theorem cut68 (v : List UInt8) (h : 8 < v.length) : List.take 2 (List.drop 6 (List.take 8 v)) = [gb v 6, gb v 7] := by
  rw [← two_of v (by omega), List.drop_take, List.take_take]
  rfl
theorem uwB_def (v asked sec : List UInt8) (h : 8 < v.length) : shoB sec (asked ++ [gb v 6, gb v 7]) (v.drop 8) = uwB v asked sec := by unfold uwB; rw [two_of v (by omega)]
theorem uw_bad {v b : List UInt8} (h : ¬ (uwC v b = true ∧ uwD b = true ∧ uwE b = true)) : (uwC v b && uwD b && uwE b) = false := by
  cases hC : uwC v b <;> cases hD : uwD b <;> cases hE : uwE b <;> first | rfl | exact absurd ⟨hC, hD, hE⟩ h
theorem uwC_iff (v b : List UInt8) : uwC v b = true ↔ kdOk ((gb v 4).toNat : Int) = true ∧ ((gb v 5).toNat : Int) = (v.length : Int) - 4 ∧ 128 ≤ (gb v 6).toNat ∧ 0 < b.length := by
  unfold uwC
  simp only [Bool.and_eq_true, decide_eq_true_eq, and_assoc]
theorem uwD_iff (b : List UInt8) : uwD b = true ↔ 1 ≤ (gb b 0).toNat ∧ (gb b 0).toNat ≤ 200 ∧ (gb b 0).toNat + 1 ≤ b.length := by
  unfold uwD
  simp only [Bool.and_eq_true, decide_eq_true_eq, and_assoc]
theorem uwE_iff (b : List UInt8) : uwE b = true ↔ (b.drop (1 + (gb b 0).toNat)).length < 16 ∧ b.drop (1 + (gb b 0).toNat) = List.replicate (b.length - (1 + (gb b 0).toNat)) 0 := by
  unfold uwE
  simp only [Bool.and_eq_true, decide_eq_true_eq]
theorem vend_def : ([0, 0, 1, 55] : List UInt8) = vend := rfl
attribute [local irreducible] md hidB shoB pad16 wrB

namespace Uequal_fc
theorem U : type_of% @md_take ∧ type_of% @md_len ∧ type_of% (@drop_rep UInt8) ∧ type_of% (@drop_rep D) ∧ type_of% (@List.take_zero UInt8) ∧ type_of% (@List.take_zero D) ∧ type_of% @q16_take ∧ type_of% @q2_take ∧ type_of% @q16_len ∧ type_of% @q2_len ∧ type_of% @q2_fold := ⟨@md_take, @md_len, (@drop_rep UInt8), (@drop_rep D), (@List.take_zero UInt8), (@List.take_zero D), @q16_take, @q2_take, @q16_len, @q2_len, @q2_fold⟩
end Uequal_fc
open Uequal_fc
theorem equal_fc (a b : List UInt8) : FC Tryd.prog GE 80 [.rob a, .rob b] (.bool (decide (a = b))) none := by
  refine fi_ 10 [4] ti_eq gpE Tryd.func80 (fun C hE hm hP hrc hrn => ?_)
  refine A_ ?_
  exact ret_

theorem unwrap_fc (v asked sec : List UInt8) (h1 : v.length ≤ 100000) (h2 : sec.length ≤ 100000) : FC Tryd.prog GO 23 [.rob v, .aggb (q16 asked), .rob sec] (.tup [.int .i64 (unw v (q16 asked) sec).1, .ownb (unw v (q16 asked) sec).2.1, .int .i64 (unw v (q16 asked) sec).2.2]) none := by
  refine fi_ 101 [6, 7, 8] ti_eq gpO Tryd.func23 (fun C hE hm hP hrc hrn => ?_)
  refine A_ ?_
  refine C_ hE (fun hc => ?_) (fun hc => ?_) <;> (try (exfalso; omega))
  · rw [unw_no (.inl (by
      rcases hc with h | h
      · rw [decide_eq_false (show ¬ 8 < v.length by omega)]; rfl
      · rw [vend_def] at h; rw [decide_eq_false h, Bool.and_false]))]
    refine A_ ?_
    exact ret_
  · have hv : 8 < v.length := by omega
    have hvd : (decide (8 < v.length) && decide (v.take 4 = vend)) = true := by
      rw [decide_eq_true hv, decide_eq_true (show v.take 4 = vend from hc.2)]; rfl
    have hb0 := sho_le sec (q16 asked ++ [gb v 6, gb v 7]) (v.drop 8)
    rw [List.length_drop] at hb0
    have hun := uwB_def v (q16 asked) sec hv
    have hcut := cut68 v hv
    refine vc_skip ?_
    refine sq_n ?_
    refine vs ?_
    refine RD_ hE hm ?_
    refine sq_n ?_
    refine vs ?_
    first | refine O_ ?_ | refine OD_ hm ?_
    refine G_ 4 hE ?_
    rw [hcut]
    refine G_ 200 hE ?_
    first | refine rz ?_ | refine ZD_ ?_
    refine sq_n ?_
    rw [show List.drop 2 ([0, 0] : List UInt8) = [] from rfl]
    refine vs ?_
    first | refine O_ ?_ | refine OD_ hm ?_
    refine G_ 200 hE ?_
    refine rc_ hE hP ((Concat2_fc (q16 asked) [gb v 6, gb v 7] (by simp [q16_len])).any) Tryd.func70 ?_
    refine G_ 200 hE ?_
    refine rc_ hE hP (ShowB_fc sec (q16 asked ++ [gb v 6, gb v 7]) (v.drop 8) h2 (by simp [q16_len]) (by simp; omega)) Tryd.func79 ?_
    refine G_ 200 hE ?_
    first | refine rz ?_ | refine ZD_ ?_
    rw [hun] at hb0
    rw [hun]
    generalize hB : uwB v (q16 asked) sec = b at *
    refine A_ ?_
    first | refine O_ ?_ | refine OD_ hm ?_
    refine G_ 200 hE ?_
    refine rc_ hE hP ((kind_fc ((gb v 4).toNat : Int)).any) Tryd.func68 ?_
    refine G_ 200 hE ?_
    first | refine rz ?_ | refine ZD_ ?_
    refine A_ ?_
    have g0 : gb [gb v 6, gb v 7] 0 = gb v 6 := rfl
    refine C_ hE (fun hc2 => ?_) (fun hc2 => ?_) <;> (try (exfalso; omega))
    · rw [g0] at hc2
      rw [unw_no (.inr (by
        rw [hB]
        refine uw_bad fun ⟨hC, _, _⟩ => ?_
        obtain ⟨c1, c2, c3, c4⟩ := (uwC_iff v b).1 hC
        rcases hc2 with ((h | h) | h) | h
        · rw [c1] at h; cases h
        · exact h c2
        · omega
        · omega))]
      refine A_ ?_
      exact ret_
    · rw [g0] at hc2
      have hC : uwC v b = true := (uwC_iff v b).2 ⟨hc2.1.1.1, hc2.1.1.2, by omega, by omega⟩
      have hn256 := UInt8.toNat_lt (gb b 0)
      refine A_ ?_
      refine C_ hE (fun hc3 => ?_) (fun hc3 => ?_) <;> (try (exfalso; omega))
      · rw [unw_no (.inr (by
          rw [hB]
          refine uw_bad fun ⟨_, hD, _⟩ => ?_
          have := (uwD_iff b).1 hD
          omega))]
        refine A_ ?_
        exact ret_
      · have hD : uwD b = true := (uwD_iff b).2 ⟨by omega, by omega, by omega⟩
        obtain ⟨n, hn⟩ : ∃ n, n = (gb b 0).toNat := ⟨_, rfl⟩
        rw [← hn] at hc3 ⊢
        refine vc_skip ?_
        refine sq_n ?_
        refine vs ?_
        refine vs ?_
        refine R_ hE ?_
        refine sq_n ?_
        refine vs ?_
        first | refine O_ ?_ | refine OD_ hm ?_
        refine G_ 4 hE ?_
        rw [show (1 + (n : Int)).toNat = 1 + n by omega]
        have hdl : (b.drop (1 + n)).length = b.length - (1 + n) := List.length_drop
        have hEq : uwE b = true ↔ b.length - (1 + n) < 16 ∧ b.drop (1 + n) = List.replicate (b.length - (1 + n)) 0 := by
          rw [uwE_iff, ← hn, hdl]
        by_cases h16 : b.length - (1 + n) < 16
        · rw [decide_eq_false (show ¬ _ from by omega)]
          refine GT_ hE (rfl) ?_
          refine GT_ hE (rfl) ?_
          refine GT_ hE (rfl) ?_
          refine GT_ hE (rfl) ?_
          refine rct_ hE hP ((equal_fc (b.drop (1 + n)) (List.replicate (b.length - (1 + n)) 0)).any) Tryd.func80 (rfl) ?_
          refine GT_ hE (rfl) ?_
          refine G_ 200 hE ?_
          first | refine rz ?_ | refine ZD_ ?_
          refine A_ ?_
          refine C_ hE (fun hc4 => ?_) (fun hc4 => ?_) <;> (try (exfalso; omega))
          · rw [unw_no (.inr (by
              rw [hB]
              exact uw_bad fun ⟨_, _, hE'⟩ => hc4 (hEq.1 hE').2))]
            refine A_ ?_
            exact ret_
          · rw [unw_yes hvd (by rw [hB, hC, hD, hEq.2 ⟨h16, hc4⟩]; rfl), hB, ← hn]
            refine A_ ?_
            rw [show ((1 : Int) + (n : Int)).toNat - 1 = n by omega]
            exact ret_
        · rw [decide_eq_true (show _ from by omega)]
          refine GF_ hE (rfl) ?_
          refine GF_ hE (rfl) ?_
          refine GF_ hE (rfl) ?_
          refine GF_ hE (rfl) ?_
          refine GF_ hE (rfl) ?_
          refine GI_ (.bool true) hE (rfl) ?_
          refine G_ 200 hE ?_
          first | refine rz ?_ | refine ZD_ ?_
          rw [unw_no (.inr (by
            rw [hB]
            exact uw_bad fun ⟨_, _, hE'⟩ => h16 (hEq.1 hE').1))]
          refine A_ ?_
          exact ret_
end Go.Proofs.YtocfhkmdkdjinaaDoor

/- The reference's Unwrap; the law's wraps. Printed by wp.py. -/
namespace Go.Proofs.YtocfhkmdkdjinaaDoor
open Go Go.RowKit
set_option linter.unusedVariables false
set_option linter.unusedSimpArgs false
set_option maxRecDepth 100000
set_option maxHeartbeats 4000000
attribute [local irreducible] inR VC RG VCn sq inS lq nq jq Wk rq
theorem rUn_a {v asked sec : List UInt8} (h : (decide (24 ≤ v.length) && decide ((v.length - 8) % 16 = 0)) = false) : rUn v asked sec = (0, [], 2) := by unfold rUn; rw [if_pos h]
theorem rUn_b {v asked sec : List UInt8} (h : (decide (24 ≤ v.length) && decide ((v.length - 8) % 16 = 0)) = true) (h2 : (uwB v asked sec).length < (gb (uwB v asked sec) 0).toNat + 1) : rUn v asked sec = (0, [], 2) := by unfold rUn; rw [if_neg (by rw [h]; simp), if_pos h2]
theorem rUn_c {v asked sec : List UInt8} (h : (decide (24 ≤ v.length) && decide ((v.length - 8) % 16 = 0)) = true) (h2 : ¬ (uwB v asked sec).length < (gb (uwB v asked sec) 0).toNat + 1)
    (h3 : (wrR (gb v 4).toNat (((uwB v asked sec).drop 1).take (gb (uwB v asked sec) 0).toNat) [gb v 6, gb v 7] asked sec).2 ≠ 0 ∨ (wrR (gb v 4).toNat (((uwB v asked sec).drop 1).take (gb (uwB v asked sec) 0).toNat) [gb v 6, gb v 7] asked sec).1 ≠ v) : rUn v asked sec = (0, [], 2) := by
  unfold rUn; rw [if_neg (by rw [h]; simp), if_neg h2, if_pos h3]
theorem rUn_d {v asked sec : List UInt8} (h : (decide (24 ≤ v.length) && decide ((v.length - 8) % 16 = 0)) = true) (h2 : ¬ (uwB v asked sec).length < (gb (uwB v asked sec) 0).toNat + 1)
    (h3 : ¬ ((wrR (gb v 4).toNat (((uwB v asked sec).drop 1).take (gb (uwB v asked sec) 0).toNat) [gb v 6, gb v 7] asked sec).2 ≠ 0 ∨ (wrR (gb v 4).toNat (((uwB v asked sec).drop 1).take (gb (uwB v asked sec) 0).toNat) [gb v 6, gb v 7] asked sec).1 ≠ v)) : rUn v asked sec = (((gb v 4).toNat : Int), ((uwB v asked sec).drop 1).take (gb (uwB v asked sec) 0).toNat, 0) := by
  unfold rUn; rw [if_neg (by rw [h]; simp), if_neg h2, if_neg h3]
theorem cut68' (v : List UInt8) (h : 8 < v.length) : List.drop 6 (List.take 8 v) = [gb v 6, gb v 7] := by
  rw [← two_of v (by omega), List.drop_take]
attribute [local irreducible] md hidB shoB pad16 wrB wrR

namespace Urunwrap_fc
theorem U : type_of% @md_take ∧ type_of% @md_len ∧ type_of% (@drop_rep UInt8) ∧ type_of% (@drop_rep D) ∧ type_of% (@List.take_zero UInt8) ∧ type_of% (@List.take_zero D) ∧ type_of% @q16_take ∧ type_of% @q2_take ∧ type_of% @q16_len ∧ type_of% @q2_len ∧ type_of% @q2_fold := ⟨@md_take, @md_len, (@drop_rep UInt8), (@drop_rep D), (@List.take_zero UInt8), (@List.take_zero D), @q16_take, @q2_take, @q16_len, @q2_len, @q2_fold⟩
end Urunwrap_fc
open Urunwrap_fc
theorem runwrap_fc (v asked sec : List UInt8) (h1 : v.length ≤ 90000) (h2 : sec.length ≤ 100000) : FC Tryd.prog GE 28 [.str v, .aggb (q16 asked), .str sec] (.tup [.int .i64 (unw v (q16 asked) sec).1, .str (unw v (q16 asked) sec).2.1, .int .i64 (unw v (q16 asked) sec).2.2]) none := by
  rw [un_same v _ sec (q16_len asked)]
  refine fi_ 72 [6, 7, 8] ti_eq gpE Tryd.func28 (fun C hE hm hP hrc hrn => ?_)
  refine A_ ?_
  refine C_ hE (fun hc => ?_) (fun hc => ?_) <;> (try (exfalso; omega))
  · rw [rUn_a (by
      rcases hc with h | h
      · rw [decide_eq_false (show ¬ 24 ≤ v.length by omega)]; rfl
      · by_cases h24 : 24 ≤ v.length
        · rw [decide_eq_false (show ¬ (v.length - 8) % 16 = 0 by omega), Bool.and_false]
        · rw [decide_eq_false h24]; rfl)]
    refine A_ ?_
    exact ret_
  · have hv : 24 ≤ v.length := by omega
    have hq : (decide (24 ≤ v.length) && decide ((v.length - 8) % 16 = 0)) = true := by
      rw [decide_eq_true hv, decide_eq_true (show (v.length - 8) % 16 = 0 by omega)]; rfl
    have hb0 := sho_length sec (q16 asked ++ [gb v 6, gb v 7]) (v.drop 8) (by rw [List.length_drop]; omega)
    rw [List.length_drop] at hb0
    have hun := uwB_def v (q16 asked) sec (by omega)
    have hcut := cut68' v (by omega)
    refine vc_skip ?_
    refine sq_n ?_
    refine vs ?_
    first | refine O_ ?_ | refine OD_ hm ?_
    refine G_ 5 hE ?_
    rw [hcut]
    refine G_ 200 hE ?_
    refine rc_ hE hP (rShowB_fc sec (q16 asked ++ [gb v 6, gb v 7]) (v.drop 8) h2 (by simp [q16_len]) (by simp; omega)) Tryd.func81 ?_
    refine G_ 200 hE ?_
    first | refine rz ?_ | refine ZD_ ?_
    rw [hun] at hb0
    rw [hun]
    generalize hB : uwB v (q16 asked) sec = b at *
    have hn256 := UInt8.toNat_lt (gb b 0)
    refine A_ ?_
    refine C_ hE (fun hc2 => ?_) (fun hc2 => ?_) <;> (try (exfalso; omega))
    · rw [rUn_b hq (by rw [hB]; omega)]
      refine A_ ?_
      exact ret_
    · refine vc_skip ?_
      refine sq_n ?_
      obtain ⟨n, hn⟩ : ∃ n, n = (gb b 0).toNat := ⟨_, rfl⟩
      rw [← hn] at hc2 hn256 ⊢
      refine vs ?_
      first | refine O_ ?_ | refine OD_ hm ?_
      refine G_ 7 hE ?_
      rw [show ((1 : Int) + (n : Int)).toNat = 1 + n by omega, show (List.take (1 + n) b).drop 1 = (b.drop 1).take n by rw [List.drop_take]; congr 1; omega]
      obtain ⟨W, hW⟩ : ∃ W, W = wrR ((gb v 4).toNat : Int) ((b.drop 1).take n) [gb v 6, gb v 7] (q16 asked) sec := ⟨_, rfl⟩
      have fc : FC Tryd.prog GE 26 [.int .i64 ((gb v 4).toNat : Int), .str ((b.drop 1).take n), .aggb [gb v 6, gb v 7], .aggb (q16 asked), .str sec] (.tup [.str W.1, .int .i64 W.2]) none := by
        rw [hW]
        exact rwrap_fc ((gb v 4).toNat : Int) ((b.drop 1).take n) [gb v 6, gb v 7] asked sec (by simp; omega) h2
      refine G_ 200 hE ?_
      refine rc_ hE hP (fc) Tryd.func26 ?_
      refine G_ 200 hE ?_
      first | refine rz ?_ | refine ZD_ ?_
      refine A_ ?_
      refine C_ hE (fun hc3 => ?_) (fun hc3 => ?_) <;> (try (exfalso; omega))
      · rw [rUn_c hq (by rw [hB]; omega) (by rw [hB, ← hn, ← hW]; exact hc3)]
        refine A_ ?_
        exact ret_
      · rw [rUn_d hq (by rw [hB]; omega) (by rw [hB, ← hn, ← hW]; intro h; rcases h with h | h; exact h hc3.1; exact h hc3.2), hB, ← hn]
        refine vc_skip ?_
        refine sq_n ?_
        refine vs ?_
        first | refine O_ ?_ | refine OD_ hm ?_
        refine G_ 7 hE ?_
        rw [show ((1 : Int) + (n : Int)).toNat = 1 + n by omega, show (List.take (1 + n) b).drop 1 = (b.drop 1).take n by rw [List.drop_take]; congr 1; omega]
        refine G_ 200 hE ?_
        first | refine rz ?_ | refine ZD_ ?_
        refine A_ ?_
        exact ret_
end Go.Proofs.YtocfhkmdkdjinaaDoor
