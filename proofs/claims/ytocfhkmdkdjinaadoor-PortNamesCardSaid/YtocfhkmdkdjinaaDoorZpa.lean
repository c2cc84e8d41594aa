/- What the claim leans on, text Zpa: Eap, Ep1, Ep2, Ep3. No condition beyond what each lemma states. -/
import Derived.Test.YtocfhkmdkdjinaaDoorZd
import Derived.Test.YtocfhkmdkdjinaaDoorZa
import Derived.Test.YtocfhkmdkdjinaaDoorZt
import Derived.Test.YtocfhkmdkdjinaaDoorZra

/- The packets of layer 16 in plain Lean: their size, their bytes, and back. -/
namespace Go.Proofs.YtocfhkmdkdjinaaDoor
open Go Go.RowKit
set_option linter.unusedVariables false
set_option linter.unusedSimpArgs false
/-- How many bytes a packet of EAP has; 0: it is not in form. -/
def szE (c i t : Int) (n : Nat) : Nat :=
  if 0 ≤ i ∧ i ≤ 255 then
    if c = 1 ∨ c = 2 then (if 1 ≤ t ∧ t ≤ 255 ∧ n ≤ 4091 then 5 + n else 0)
    else if c = 3 ∨ c = 4 then (if t = 0 ∧ n = 0 then 4 else 0) else 0
  else 0
/-- Its bytes. -/
def weS (c i t : Int) (d : List UInt8) : List UInt8 := [b8 c, b8 i, b8 ((szE c i t d.length : Int) / 256), b8 (szE c i t d.length : Int)] ++ (if 4 < szE c i t d.length then b8 t :: d else [])
def weV (c i t : Int) (d : List UInt8) : List UInt8 × Int := if szE c i t d.length = 0 then ([], 2) else (weS c i t d, 0)
/-- What is read of bytes: code, number, type, data, error. -/
def reP (l : List UInt8) : Int × Int × Int × List UInt8 × Int :=
  if l.length < 4 ∨ l.length < (gb l 2).toNat * 256 + (gb l 3).toNat then (0, 0, 0, [], 3)
  else if l.length = (gb l 2).toNat * 256 + (gb l 3).toNat ∧ szE (gb l 0).toNat (gb l 1).toNat (if 4 < l.length then ((gb l 4).toNat : Int) else 0) (l.drop 5).length = (gb l 2).toNat * 256 + (gb l 3).toNat then
    ((gb l 0).toNat, (gb l 1).toNat, (if 4 < l.length then ((gb l 4).toNat : Int) else 0), l.drop 5, 0)
  else (0, 0, 0, [], 2)
theorem szE_two {c i t : Int} {n : Nat} (hc : c = 1 ∨ c = 2) (hi : 0 ≤ i ∧ i ≤ 255) (ht : 1 ≤ t ∧ t ≤ 255) (hn : n ≤ 4091) : szE c i t n = 5 + n := by
  unfold szE; rw [if_pos hi, if_pos hc, if_pos ⟨ht.1, ht.2, hn⟩]
theorem szE_end {c i : Int} (hc : c = 3 ∨ c = 4) (hi : 0 ≤ i ∧ i ≤ 255) : szE c i 0 0 = 4 := by
  unfold szE; rw [if_pos hi, if_neg (by omega), if_pos hc, if_pos ⟨rfl, rfl⟩]
theorem szE_le (c i t : Int) (n : Nat) : szE c i t n ≤ 4096 := by
  unfold szE
  split
  · split
    · split <;> omega
    · split
      · split <;> omega
      · omega
  · omega
theorem szE_nz {c i t : Int} {n : Nat} (h : szE c i t n ≠ 0) : (0 ≤ i ∧ i ≤ 255) ∧ (((c = 1 ∨ c = 2) ∧ 1 ≤ t ∧ t ≤ 255 ∧ szE c i t n = 5 + n ∧ n ≤ 4091) ∨ ((c = 3 ∨ c = 4) ∧ t = 0 ∧ n = 0 ∧ szE c i t n = 4)) := by
  unfold szE at h ⊢
  split at h
  · rename_i hi
    refine ⟨hi, ?_⟩
    split at h
    · rename_i hc
      split at h
      · rename_i ht
        exact .inl ⟨hc, ht.1, ht.2.1, by rw [if_pos hi, if_pos hc, if_pos ht], ht.2.2⟩
      · exact absurd rfl h
    · rename_i hc
      split at h
      · rename_i hc2
        split at h
        · rename_i ht
          exact .inr ⟨hc2, ht.1, ht.2, by rw [if_pos hi, if_neg hc, if_pos hc2, if_pos ht]⟩
        · exact absurd rfl h
      · exact absurd rfl h
  · exact absurd rfl h
theorem b8_mod (n : Nat) : ((b8 (n : Int)).toNat : Int) = (n : Int) % 256 := by
  unfold b8
  simp
  omega
/-- A packet comes back from its bytes. -/
theorem re_we {c i t : Int} {d : List UInt8} (h : szE c i t d.length ≠ 0) : reP (weS c i t d) = (c, i, t, d, 0) ∧ (weS c i t d).length = szE c i t d.length := by
  obtain ⟨⟨hi0, hi1⟩, hc⟩ := szE_nz h
  have hle := szE_le c i t d.length
  have t1 := b8_toNat hi0 hi1
  have t2 := b8_toNat (x := (szE c i t d.length : Int) / 256) (by omega) (by omega)
  have t3 := b8_mod (szE c i t d.length)
  have t0 := b8_toNat (x := c) (by omega) (by omega)
  have e0 : gb (weS c i t d) 0 = b8 c := rfl
  have e1 : gb (weS c i t d) 1 = b8 i := rfl
  have e2 : gb (weS c i t d) 2 = b8 ((szE c i t d.length : Int) / 256) := rfl
  have e3 : gb (weS c i t d) 3 = b8 (szE c i t d.length : Int) := rfl
  have en : (gb (weS c i t d) 2).toNat * 256 + (gb (weS c i t d) 3).toNat = szE c i t d.length := by rw [e2, e3]; omega
  rcases hc with ⟨hc, ht0, ht1, hs, hn⟩ | ⟨hc, rfl, hd, hs⟩
  · have hb : weS c i t d = b8 c :: b8 i :: b8 ((szE c i t d.length : Int) / 256) :: b8 (szE c i t d.length : Int) :: b8 t :: d := by
      unfold weS
      rw [if_pos (by omega)]
      rfl
    have hl : (weS c i t d).length = szE c i t d.length := by rw [hb, hs]; simp only [List.length_cons]; omega
    have e4 : gb (weS c i t d) 4 = b8 t := by rw [hb]; rfl
    have e5 : (weS c i t d).drop 5 = d := by rw [hb]; rfl
    have t4 := b8_toNat (x := t) (by omega) ht1
    refine ⟨?_, hl⟩
    unfold reP
    rw [en, hl, e4, e5, e0, e1, t0, t1, t4, show (if 4 < szE c i t d.length then t else 0) = t from if_pos (by omega), if_neg (by omega), if_pos ⟨rfl, rfl⟩]
  · obtain rfl : d = [] := List.length_eq_zero_iff.1 hd
    have hb : weS c i 0 [] = [b8 c, b8 i, b8 ((szE c i 0 0 : Int) / 256), b8 (szE c i 0 0 : Int)] := by
      unfold weS
      rw [if_neg (by omega)]
      rfl
    have hl : (weS c i 0 []).length = szE c i 0 ([] : List UInt8).length := by rw [hb, hs]; rfl
    have e5 : (weS c i 0 []).drop 5 = [] := by rw [hb]; rfl
    refine ⟨?_, hl⟩
    unfold reP
    rw [en, hl, e5, e0, e1, t0, t1, show (if 4 < szE c i 0 ([] : List UInt8).length then ((gb (weS c i 0 []) 4).toNat : Int) else 0) = 0 from if_neg (by omega), if_neg (by omega), if_pos ⟨rfl, rfl⟩]
end Go.Proofs.YtocfhkmdkdjinaaDoor

/- eap: size, Write. Printed by wp.py. -/
namespace Go.Proofs.YtocfhkmdkdjinaaDoor
open Go Go.RowKit
set_option linter.unusedVariables false
set_option linter.unusedSimpArgs false
set_option maxRecDepth 100000
set_option maxHeartbeats 4000000
attribute [local irreducible] inR VC RG VCn sq inS lq nq jq Wk
theorem szE_i {c i t : Int} {n : Nat} (h : ¬ (0 ≤ i ∧ i ≤ 255)) : szE c i t n = 0 := by unfold szE; rw [if_neg h]
theorem szE_12 {c i t : Int} {n : Nat} (h : 0 ≤ i ∧ i ≤ 255) (hc : c = 1 ∨ c = 2) : szE c i t n = if 1 ≤ t ∧ t ≤ 255 ∧ n ≤ 4091 then 5 + n else 0 := by unfold szE; rw [if_pos h, if_pos hc]
theorem szE_34 {c i t : Int} {n : Nat} (h : 0 ≤ i ∧ i ≤ 255) (hc : c = 3 ∨ c = 4) : szE c i t n = if t = 0 ∧ n = 0 then 4 else 0 := by unfold szE; rw [if_pos h, if_neg (by omega), if_pos hc]
theorem szE_no {c i t : Int} {n : Nat} (hc : ¬ (c = 1 ∨ c = 2)) (hc2 : ¬ (c = 3 ∨ c = 4)) : szE c i t n = 0 := by
  unfold szE
  split
  · first | rfl | rw [if_neg hc, if_neg hc2]
  · rfl
theorem wi_dec (n lo hi : Int) : (decide (lo ≤ n) && decide (n ≤ hi)) = decide (lo ≤ n ∧ n ≤ hi) := (Bool.decide_and _ _).symm

namespace Uewithin_fc
theorem U : type_of% (@drop_rep UInt8) ∧ type_of% (@drop_rep D) ∧ type_of% (@List.take_zero UInt8) ∧ type_of% (@List.take_zero D) := ⟨(@drop_rep UInt8), (@drop_rep D), (@List.take_zero UInt8), (@List.take_zero D)⟩
end Uewithin_fc
open Uewithin_fc
theorem ewithin_fc (n lo hi : Int) : FC Tryd.prog GE 117 [.int .i64 n, .int .i64 lo, .int .i64 hi] (.bool (decide (lo ≤ n ∧ n ≤ hi))) none := by
  refine fi_ 15 [6] ti_eq gpE Tryd.func117 (fun C hE hm hP hrc hrn => ?_)
  rw [← wi_dec]
  repeat' (first | refine A1_ ?_ | refine C_ hE (fun hc => ?_) (fun hc => ?_) <;> (try (exfalso; omega)))
  exact ret_

theorem esize_fc (c i t : Int) (d : List UInt8) (hd : d.length ≤ 1000000) : FC Tryd.prog GE 100 [.agg [.int .i64 c, .int .i64 i, .int .i64 t, .rob d]] (.int .i64 (szE c i t d.length)) none := by
  refine fi_ 39 [2] ti_eq gpE Tryd.func100 (fun C hE hm hP hrc hrn => ?_)
  refine vs ?_
  refine R_ hE ?_
  refine sq_n ?_
  refine vs ?_
  refine vs ?_
  first | refine O_ ?_ | refine OD_ hm ?_
  refine G_ 2 hE ?_
  refine rc_ hE hP (ewithin_fc i 0 255) Tryd.func117 ?_
  by_cases hi : 0 ≤ i ∧ i ≤ 255
  · rw [decide_eq_true hi]
    refine G_ 200 hE ?_
    first | refine rz ?_ | refine ZD_ ?_
    by_cases h1 : c = 1
    · subst h1
      refine A_ ?_
      first | refine O_ ?_ | refine OD_ hm ?_
      refine G_ 2 hE ?_
      refine rc_ hE hP (ewithin_fc t 1 255) Tryd.func117 ?_
      rw [szE_12 hi (by omega)]
      by_cases ht : 1 ≤ t ∧ t ≤ 255
      · rw [decide_eq_true ht]
        by_cases hn : d.length ≤ 4091
        · rw [if_pos ⟨ht.1, ht.2, hn⟩]
          refine G_ 200 hE ?_
          first | refine rz ?_ | refine ZD_ ?_
          refine A_ ?_
          refine C_ hE (fun hq => ?_) (fun hq => ?_) <;> (try (exfalso; omega))
          refine A_ ?_
          exact ret_
        · rw [if_neg (fun q => hn q.2.2)]
          refine G_ 200 hE ?_
          first | refine rz ?_ | refine ZD_ ?_
          refine A_ ?_
          refine C_ hE (fun hq => ?_) (fun hq => ?_) <;> (try (exfalso; omega))
          refine A_ ?_
          exact ret_
      · rw [decide_eq_false ht, if_neg (fun q => ht ⟨q.1, q.2.1⟩)]
        refine G_ 200 hE ?_
        first | refine rz ?_ | refine ZD_ ?_
        refine A_ ?_
        exact ret_
    by_cases h2 : c = 2
    · subst h2
      refine A_ ?_
      first | refine O_ ?_ | refine OD_ hm ?_
      refine G_ 2 hE ?_
      refine rc_ hE hP (ewithin_fc t 1 255) Tryd.func117 ?_
      rw [szE_12 hi (by omega)]
      by_cases ht : 1 ≤ t ∧ t ≤ 255
      · rw [decide_eq_true ht]
        by_cases hn : d.length ≤ 4091
        · rw [if_pos ⟨ht.1, ht.2, hn⟩]
          refine G_ 200 hE ?_
          first | refine rz ?_ | refine ZD_ ?_
          refine A_ ?_
          refine C_ hE (fun hq => ?_) (fun hq => ?_) <;> (try (exfalso; omega))
          refine A_ ?_
          exact ret_
        · rw [if_neg (fun q => hn q.2.2)]
          refine G_ 200 hE ?_
          first | refine rz ?_ | refine ZD_ ?_
          refine A_ ?_
          refine C_ hE (fun hq => ?_) (fun hq => ?_) <;> (try (exfalso; omega))
          refine A_ ?_
          exact ret_
      · rw [decide_eq_false ht, if_neg (fun q => ht ⟨q.1, q.2.1⟩)]
        refine G_ 200 hE ?_
        first | refine rz ?_ | refine ZD_ ?_
        refine A_ ?_
        exact ret_
    by_cases h3 : c = 3
    · subst h3
      refine A_ ?_
      rw [szE_34 hi (by omega)]
      by_cases ht : t = 0 ∧ d.length = 0
      · rw [if_pos ht]
        refine C_ hE (fun hq => ?_) (fun hq => ?_) <;> (try (exfalso; omega))
        refine A_ ?_
        exact ret_
      · rw [if_neg ht]
        refine C_ hE (fun hq => ?_) (fun hq => ?_) <;> (try (exfalso; omega))
        refine A_ ?_
        exact ret_
    by_cases h4 : c = 4
    · subst h4
      refine A_ ?_
      rw [szE_34 hi (by omega)]
      by_cases ht : t = 0 ∧ d.length = 0
      · rw [if_pos ht]
        refine C_ hE (fun hq => ?_) (fun hq => ?_) <;> (try (exfalso; omega))
        refine A_ ?_
        exact ret_
      · rw [if_neg ht]
        refine C_ hE (fun hq => ?_) (fun hq => ?_) <;> (try (exfalso; omega))
        refine A_ ?_
        exact ret_
    rw [szE_no (by omega) (by omega)]
    repeat' (first | refine A1_ ?_ | refine C_ hE (fun hc => ?_) (fun hc => ?_) <;> (try (exfalso; omega)))
    exact ret_
  · rw [decide_eq_false hi, szE_i hi]
    refine G_ 200 hE ?_
    first | refine rz ?_ | refine ZD_ ?_
    refine A_ ?_
    exact ret_
end Go.Proofs.YtocfhkmdkdjinaaDoor

/- eap: Write. Printed by wp.py. -/
namespace Go.Proofs.YtocfhkmdkdjinaaDoor
open Go Go.RowKit
set_option linter.unusedVariables false
set_option linter.unusedSimpArgs false
set_option maxRecDepth 100000
set_option maxHeartbeats 4000000
attribute [local irreducible] inR VC RG VCn sq inS lq nq jq Wk
theorem weV_0 {c i t : Int} {d : List UInt8} (h : szE c i t d.length = 0) : weV c i t d = ([], 2) := by unfold weV; rw [if_pos h]
theorem weV_1 {c i t : Int} {d : List UInt8} (h : ¬ szE c i t d.length = 0) : weV c i t d = (weS c i t d, 0) := by unfold weV; rw [if_neg h]
theorem weS_b {c i t : Int} {d : List UInt8} {n : Nat} (hn : n = szE c i t d.length) (h : 4 < n) : weS c i t d = [b8 c, b8 i, b8 ((n : Int) / 256), b8 (n : Int)] ++ [b8 t] ++ d := by unfold weS; rw [← hn, if_pos h, List.append_assoc]; rfl
theorem weS_s {c i t : Int} {d : List UInt8} {n : Nat} (hn : n = szE c i t d.length) (h : ¬ 4 < n) : weS c i t d = [b8 c, b8 i, b8 ((n : Int) / 256), b8 (n : Int)] := by unfold weS; rw [← hn, if_neg h, List.append_nil]

namespace Uewrite_fc
theorem U : type_of% (@drop_rep UInt8) ∧ type_of% (@drop_rep D) ∧ type_of% (@List.take_zero UInt8) ∧ type_of% (@List.take_zero D) := ⟨(@drop_rep UInt8), (@drop_rep D), (@List.take_zero UInt8), (@List.take_zero D)⟩
end Uewrite_fc
open Uewrite_fc
theorem ewrite_fc (c i t : Int) (d : List UInt8) (hd : d.length ≤ 1000000) : FC Tryd.prog GE 64 [.agg [.int .i64 c, .int .i64 i, .int .i64 t, .rob d]] (.tup [.ownb (weV c i t d).1, .int .i64 (weV c i t d).2]) none := by
  refine fi_ 34 [2, 3] ti_eq gpE Tryd.func64 (fun C hE hm hP hrc hrn => ?_)
  have hle := szE_le c i t d.length
  have hsz := esize_fc c i t d hd
  have w0 := @weV_0 c i t d
  have w1 := @weV_1 c i t d
  obtain ⟨n, hn⟩ : ∃ n, n = szE c i t d.length := ⟨_, rfl⟩
  have wb := @weS_b c i t d n hn
  have ws := @weS_s c i t d n hn
  rw [← hn] at hle hsz w0 w1
  refine vs ?_
  refine R_ hE ?_
  refine sq_n ?_
  refine vs ?_
  first | refine O_ ?_ | refine OD_ hm ?_
  refine G_ 1 hE ?_
  refine rc_ hE hP (hsz) Tryd.func100 ?_ (hm := by exact ma2_) (hnr := by exact nrt2_) (had := by exact adt2_)
  refine G_ 200 hE ?_
  first | refine rz ?_ | refine ZD_ ?_
  by_cases h0 : n = 0
  · rw [w0 h0]
    refine A_ ?_
    refine C_ hE (fun hc => ?_) (fun hc => ?_) <;> (try (exfalso; omega))
    refine A_ ?_
    exact ret_
  · rw [w1 h0]
    refine A_ ?_
    refine C_ hE (fun hc => ?_) (fun hc => ?_) <;> (try (exfalso; omega))
    refine A_ ?_
    by_cases h4 : 4 < n
    · rw [wb h4]
      refine C_ hE (fun hc4 => ?_) (fun hc4 => ?_) <;> (try (exfalso; omega))
      refine A_ ?_
      exact ret_
    · rw [ws h4]
      refine C_ hE (fun hc4 => ?_) (fun hc4 => ?_) <;> (try (exfalso; omega))
      refine A_ ?_
      exact ret_
end Go.Proofs.YtocfhkmdkdjinaaDoor

/- eap: Read. Printed by wp.py. -/
namespace Go.Proofs.YtocfhkmdkdjinaaDoor
open Go Go.RowKit
set_option linter.unusedVariables false
set_option linter.unusedSimpArgs false
set_option maxRecDepth 100000
set_option maxHeartbeats 4000000
attribute [local irreducible] inR VC RG VCn sq inS lq nq jq Wk
theorem reP_t {l : List UInt8} (h : l.length < 4 ∨ l.length < (gb l 2).toNat * 256 + (gb l 3).toNat) : reP l = (0, 0, 0, [], 3) := by unfold reP; rw [if_pos h]
theorem reP_y {l : List UInt8} {t : Int} (ht : t = if 4 < l.length then ((gb l 4).toNat : Int) else 0) (h : ¬ (l.length < 4 ∨ l.length < (gb l 2).toNat * 256 + (gb l 3).toNat)) (h2 : l.length = (gb l 2).toNat * 256 + (gb l 3).toNat ∧ szE (gb l 0).toNat (gb l 1).toNat t (l.drop 5).length = (gb l 2).toNat * 256 + (gb l 3).toNat) :
    reP l = (((gb l 0).toNat : Int), ((gb l 1).toNat : Int), t, l.drop 5, 0) := by subst ht; unfold reP; rw [if_neg h, if_pos h2]
theorem reP_n {l : List UInt8} {t : Int} (ht : t = if 4 < l.length then ((gb l 4).toNat : Int) else 0) (h : ¬ (l.length < 4 ∨ l.length < (gb l 2).toNat * 256 + (gb l 3).toNat)) (h2 : ¬ (l.length = (gb l 2).toNat * 256 + (gb l 3).toNat ∧ szE (gb l 0).toNat (gb l 1).toNat t (l.drop 5).length = (gb l 2).toNat * 256 + (gb l 3).toNat)) :
    reP l = (0, 0, 0, [], 2) := by subst ht; unfold reP; rw [if_neg h, if_neg h2]

namespace Ueread_fc
theorem U : type_of% (@drop_rep UInt8) ∧ type_of% (@drop_rep D) ∧ type_of% (@List.take_zero UInt8) ∧ type_of% (@List.take_zero D) := ⟨(@drop_rep UInt8), (@drop_rep D), (@List.take_zero UInt8), (@List.take_zero D)⟩
end Ueread_fc
open Ueread_fc
theorem eread_fc (l : List UInt8) (c i t : Int) (d : List UInt8) (e : Int) (hl : l.length ≤ 1000000) (h : reP l = (c, i, t, d, e)) : FC Tryd.prog GE 65 [.rob l] (.tup [.agg [.int .i64 c, .int .i64 i, .int .i64 t, .ownb d], .int .i64 e]) none := by
  refine fict_ 58 ti_eq gpE Tryd.func65 (fun C hE hm hP hrc hrn => ?_)
  refine vs ?_
  refine R_ hE ?_
  refine sq_n ?_
  refine vs ?_
  by_cases h1 : l.length < 4
  · rw [reP_t (.inl h1)] at h
    simp only [Prod.mk.injEq] at h
    obtain ⟨rfl, rfl, rfl, rfl, rfl⟩ := h
    refine A_ ?_
    refine C_ hE (fun hc => ?_) (fun hc => ?_) <;> (try (exfalso; omega))
    refine A_ ?_
    exact retct_ (h := by exact ma3_)
  · refine A_ ?_
    refine C_ hE (fun hc => ?_) (fun hc => ?_) <;> (try (exfalso; omega))
    refine A_ ?_
    have hb_l2 := UInt8.toNat_lt (gb l 2); have hb_l3 := UInt8.toNat_lt (gb l 3)
    first | refine O_ ?_ | refine OD_ hm ?_
    refine G_ 10 hE ?_
    rw [or16 _ _ (by omega) (by omega)]
    refine G_ 200 hE ?_
    first | refine rz ?_ | refine ZD_ ?_
    obtain ⟨n, hn⟩ : ∃ n, n = (gb l 2).toNat * 256 + (gb l 3).toNat := ⟨_, rfl⟩
    have ry := @reP_y l
    have rn := @reP_n l
    have rt := @reP_t l
    rw [← hn] at ry rn rt ⊢
    by_cases h2 : l.length < n
    · rw [rt (.inr h2)] at h
      simp only [Prod.mk.injEq] at h
      obtain ⟨rfl, rfl, rfl, rfl, rfl⟩ := h
      refine A_ ?_
      refine C_ hE (fun hc2 => ?_) (fun hc2 => ?_) <;> (try (exfalso; omega))
      refine A_ ?_
      exact retct_ (h := by exact ma3_)
    · refine A_ ?_
      refine C_ hE (fun hc2 => ?_) (fun hc2 => ?_) <;> (try (exfalso; omega))
      refine A_ ?_
      by_cases h4 : 4 < l.length
      · refine C_ hE (fun hc4 => ?_) (fun hc4 => ?_) <;> (try (exfalso; omega))
        refine A_ ?_
        first | refine O_ ?_ | refine OD_ hm ?_
        refine G_ 6 hE ?_
        refine rc_ hE hP (clone_fc _ (l.drop 5) (by simp; omega)) Tryd.func85 ?_
        refine G_ 200 hE ?_
        first | refine rz ?_ | refine ZD_ ?_
        refine A_ ?_
        have hnt : ¬ (l.length < 4 ∨ l.length < n) := by omega
        have ryy := ry (t := ((gb l 4).toNat : Int)) (by rw [if_pos h4]) hnt
        have rnn := rn (t := ((gb l 4).toNat : Int)) (by rw [if_pos h4]) hnt
        first | refine O_ ?_ | refine OD_ hm ?_
        refine G_ 4 hE ?_
        by_cases hs : l.length = n
        · rw [decide_eq_true (show (l.length : Int) = (n : Int) by omega), Bool.not_true]
          refine G_ 1 hE ?_
          refine GT_ hE (rfl) ?_
          refine rct_ hE hP (esize_fc (gb l 0).toNat (gb l 1).toNat (((gb l 4).toNat : Int)) (l.drop 5) (by simp; try omega)) Tryd.func100 (rfl) ?_ (hm := by exact ma2_) (hnr := by exact nrt2_) (had := by exact adt2_)
          refine GT_ hE (rfl) ?_
          by_cases hz : szE (gb l 0).toNat (gb l 1).toNat (((gb l 4).toNat : Int)) (l.drop 5).length = n
          · rw [ryy ⟨hs, hz⟩] at h
            simp only [Prod.mk.injEq] at h
            obtain ⟨rfl, rfl, rfl, rfl, rfl⟩ := h
            rw [List.length_drop] at hz
            rw [hz]
            refine G_ 200 hE ?_
            first | refine rz ?_ | refine ZD_ ?_
            refine A_ ?_
            exact retct_ (h := by exact ma3_)
          · rw [rnn (fun q => hz q.2)] at h
            simp only [Prod.mk.injEq] at h
            obtain ⟨rfl, rfl, rfl, rfl, rfl⟩ := h
            rw [List.length_drop] at hz
            refine G_ 200 hE ?_
            first | refine rz ?_ | refine ZD_ ?_
            refine A_ ?_
            refine C_ hE (fun hcf => ?_) (fun hcf => ?_) <;> (try (exfalso; omega))
            refine A_ ?_
            exact retct_ (h := by exact ma3_)
        · rw [rnn (fun q => hs q.1)] at h
          simp only [Prod.mk.injEq] at h
          obtain ⟨rfl, rfl, rfl, rfl, rfl⟩ := h
          rw [decide_eq_false (show ¬ (l.length : Int) = (n : Int) by omega), Bool.not_false]
          refine G_ 1 hE ?_
          refine GF_ hE (rfl) ?_
          refine GF_ hE (rfl) ?_
          refine GF_ hE (rfl) ?_
          refine GI_ (.bool true) hE (rfl) ?_
          refine G_ 200 hE ?_
          first | refine rz ?_ | refine ZD_ ?_
          refine A_ ?_
          exact retct_ (h := by exact ma3_)
      · have hd0 : l.drop 5 = [] := List.drop_of_length_le (by omega)
        refine C_ hE (fun hc4 => ?_) (fun hc4 => ?_) <;> (try (exfalso; omega))
        refine A_ ?_
        have hnt : ¬ (l.length < 4 ∨ l.length < n) := by omega
        have ryy := ry (t := 0) (by rw [if_neg h4]) hnt
        have rnn := rn (t := 0) (by rw [if_neg h4]) hnt
        first | refine O_ ?_ | refine OD_ hm ?_
        refine G_ 4 hE ?_
        by_cases hs : l.length = n
        · rw [decide_eq_true (show (l.length : Int) = (n : Int) by omega), Bool.not_true]
          refine G_ 1 hE ?_
          refine GT_ hE (rfl) ?_
          refine rct_ hE hP (esize_fc (gb l 0).toNat (gb l 1).toNat (0) [] (by simp; try omega)) Tryd.func100 (rfl) ?_ (hm := by exact ma2_) (hnr := by exact nrt2_) (had := by exact adt2_)
          refine GT_ hE (rfl) ?_
          by_cases hz : szE (gb l 0).toNat (gb l 1).toNat (0) (l.drop 5).length = n
          · rw [ryy ⟨hs, hz⟩] at h
            simp only [Prod.mk.injEq] at h
            obtain ⟨rfl, rfl, rfl, rfl, rfl⟩ := h
            rw [hd0, List.length_nil] at hz
            rw [hz, hd0]
            refine G_ 200 hE ?_
            first | refine rz ?_ | refine ZD_ ?_
            refine A_ ?_
            exact retct_ (h := by exact ma3_)
          · rw [rnn (fun q => hz q.2)] at h
            simp only [Prod.mk.injEq] at h
            obtain ⟨rfl, rfl, rfl, rfl, rfl⟩ := h
            rw [hd0, List.length_nil] at hz
            refine G_ 200 hE ?_
            first | refine rz ?_ | refine ZD_ ?_
            refine A_ ?_
            refine C_ hE (fun hcf => ?_) (fun hcf => ?_) <;> (try (exfalso; omega))
            refine A_ ?_
            exact retct_ (h := by exact ma3_)
        · rw [rnn (fun q => hs q.1)] at h
          simp only [Prod.mk.injEq] at h
          obtain ⟨rfl, rfl, rfl, rfl, rfl⟩ := h
          rw [decide_eq_false (show ¬ (l.length : Int) = (n : Int) by omega), Bool.not_false]
          refine G_ 1 hE ?_
          refine GF_ hE (rfl) ?_
          refine GF_ hE (rfl) ?_
          refine GF_ hE (rfl) ?_
          refine GI_ (.bool true) hE (rfl) ?_
          refine G_ 200 hE ?_
          first | refine rz ?_ | refine ZD_ ?_
          refine A_ ?_
          exact retct_ (h := by exact ma3_)
end Go.Proofs.YtocfhkmdkdjinaaDoor
