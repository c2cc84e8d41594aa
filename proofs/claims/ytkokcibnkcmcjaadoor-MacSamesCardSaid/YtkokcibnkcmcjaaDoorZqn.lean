/- What the claim leans on, text Zqn: Sh31. No condition beyond what each lemma states. -/
import Derived.Test.YtkokcibnkcmcjaaDoorZd
import Derived.Test.YtkokcibnkcmcjaaDoorZt
import Derived.Test.YtkokcibnkcmcjaaDoorZm
import Derived.Test.YtkokcibnkcmcjaaDoorZqm

/- mac.Same; MacSames returns true. Printed by wp.py. -/
namespace Go.Proofs.YtkokcibnkcmcjaaDoor
open Go Go.RowKit
set_option linter.unusedVariables false
set_option linter.unusedSimpArgs false
set_option maxRecDepth 100000
set_option maxHeartbeats 4000000
attribute [local irreducible] inR VC RG VCn sq inS lq nq jq Wk
/-- What the rows differ by, up to a place. -/
def orX (a b : List UInt8) : Nat → UInt8
  | 0 => 0
  | n + 1 => orX a b n ||| (gb a n ^^^ gb b n)
theorem orX_succ (a b : List UInt8) (n : Nat) : orX a b n ||| (gb a n ^^^ gb b n) = orX a b (n + 1) := rfl
theorem orX_iff (a b : List UInt8) : ∀ n, orX a b n = 0 ↔ ∀ i, i < n → gb a i = gb b i
  | 0 => by simp [orX]
  | n + 1 => by
    rw [orX, UInt8.or_eq_zero_iff, UInt8.xor_eq_zero_iff, orX_iff a b n]
    constructor
    · rintro ⟨h1, h2⟩ i hi
      rcases Nat.lt_or_ge i n with h | h
      · exact h1 i h
      · obtain rfl : i = n := by omega
        exact h2
    · exact fun h => ⟨fun i hi => h i (by omega), h n (by omega)⟩
theorem orX_eq (a b : List UInt8) (h : a.length = b.length) : decide (orX a b a.length = 0) = decide (a = b) := by
  refine decide_eq_decide.2 ((orX_iff a b _).trans ⟨fun h2 => ?_, fun h2 i _ => by rw [h2]⟩)
  apply List.ext_getElem h
  intro i h3 h4
  have := h2 i h3
  unfold gb at this
  rw [List.getD_eq_getElem?_getD, List.getD_eq_getElem?_getD, List.getElem?_eq_getElem h3, List.getElem?_eq_getElem h4] at this
  exact this
theorem bxx (v : Bool) : (!(v == v)) = false := by cases v <;> rfl
theorem sm_cut (l : List UInt8) : List.take l.length l = l := List.take_length
theorem orX_z (a b : List UInt8) : orX a b 0 = 0 := rfl
attribute [local simp] orX_z
attribute [local irreducible] orX

namespace Usame_fc
theorem U : type_of% (@drop_rep UInt8) ∧ type_of% (@drop_rep D) ∧ type_of% (@List.take_zero UInt8) ∧ type_of% (@List.take_zero D) ∧ type_of% @bxx ∧ type_of% @sm_cut := ⟨(@drop_rep UInt8), (@drop_rep D), (@List.take_zero UInt8), (@List.take_zero D), @bxx, @sm_cut⟩
end Usame_fc
open Usame_fc
theorem same_fc (a b : List UInt8) (h : a.length ≤ 100000) : FC Tryd.prog GE 43 [.rob a, .rob b] (.bool (decide (a = b))) none := by
  refine fi_ 31 [4] ti_eq gpE Tryd.func43 (fun C hE hm hP hrc hrn => ?_)
  refine A_ ?_
  refine C_ hE (fun hc1 => ?_) (fun hc1 => ?_) <;> (try (exfalso; omega))
  · have hne : ¬ a = b := fun e => hc1 (by rw [e])
    rw [decide_eq_false hne]
    repeat' (first | refine A1_ ?_ | refine C_ hE (fun hc => ?_) (fun hc => ?_) <;> (try (exfalso; omega)))
    exact ret_
  · have hl : a.length = b.length := by omega
    refine A_ ?_
    refine vl (fun i : Nat => ⟨[(0, .rob a), (1, .rob b), (5, .u8 (orX a b i)), (13, .int .i64 a.length), (14, .int .i64 i)], [], []⟩) (fun i => i ≤ a.length) (fun i => a.length - i) 0 ?_ (Nat.zero_le _) (fun i hi => ?_)
    · exact wk_ hrc
    · repeat' (first | refine A1_ ?_ | refine C_ hE (fun hc => ?_) (fun hc => ?_) <;> (try (exfalso; omega)))
      · rw [orX_succ]
        refine lq_n (i + 1) ?_ (by omega) (by omega)
        exact wk_ hrc
      · obtain rfl : i = a.length := by omega
        rw [← orX_eq a b hl]
        repeat' (first | refine A1_ ?_ | refine C_ hE (fun hc => ?_) (fun hc => ?_) <;> (try (exfalso; omega)))
        exact ret_

theorem sameN_fc (a : List UInt8) (n : Nat) (h : a.length ≠ n) : FC Tryd.prog GE 43 [.rob a, .lsl n] (.bool false) none := by
  refine fi_ 31 [4] ti_eq gpE Tryd.func43 (fun C hE hm hP hrc hrn => ?_)
  repeat' (first | refine A1_ ?_ | refine C_ hE (fun hc => ?_) (fun hc => ?_) <;> (try (exfalso; omega)))
  exact ret_
theorem str_eqd (a b : List UInt8) : (decide (a = b) == decide (a = b)) = true := by simp
/-- A row with one byte changed by what is not nought. -/
theorem sm_ne (a : List UInt8) (k : Nat) (x : UInt8) (hk : k < a.length) (hx : x ≠ 0) : ¬ a = a.set k (gb a k ^^^ x) := by
  intro e
  have h := congrArg (fun l => gb l k) e
  simp only [gb, List.getD_eq_getElem?_getD, List.getElem?_set_self hk] at h
  have h2 : (a[k]?.getD 0) ^^^ x = a[k]?.getD 0 := h.symm
  exact hx (by
    have := congrArg (fun y => (a[k]?.getD 0) ^^^ y) h2
    simpa [← UInt8.xor_assoc] using this)

theorem wrap_64 (n : Int) : IntKind.u64.wrap n = n % 18446744073709551616 := by simp [IntKind.wrap, IntKind.bits, IntKind.signed]
theorem shl_ne : ∀ e : Nat, e < 8 → shl8 1 e ≠ 0 := by decide
theorem decL31 (l : List UInt8) : decide (l = l) = true := decide_eq_true rfl
theorem macSames_fc (la lb : List UInt8) (at_ : Int) : FC Tryd.prog GS 11 [.rob la, .rob lb, .int .i64 at_] (.bool true) none := by
  refine fi_ 75 [6] ti_eq gpS Tryd.func11 (fun C hE hm hP hrc hrn => ?_)
  refine A_ ?_
  obtain ⟨a, ha⟩ : ∃ a, a = List.take (min (la.length : Int) 300).toNat la := ⟨_, rfl⟩
  have ha2 : a.length ≤ 300 := by rw [ha, List.length_take]; omega
  have hal : min (min (la.length : Int) 300).toNat la.length = a.length := by rw [ha, List.length_take]
  rw [← ha, hal]
  clear ha hal
  obtain ⟨b, hb⟩ : ∃ b, b = List.take (min (lb.length : Int) 300).toNat lb := ⟨_, rfl⟩
  have hb2 : b.length ≤ 300 := by rw [hb, List.length_take]; omega
  have hbl : min (min (lb.length : Int) 300).toNat lb.length = b.length := by rw [hb, List.length_take]
  rw [← hb]
  clear hb hbl
  have s1 := same_fc a b (by omega)
  have s2 := same_fc a a (by omega)
  have s3 := sameN_fc a (a.length + 1) (by omega)
  first | refine O_ ?_ | refine OD_ hm ?_
  refine G_ 200 hE ?_
  refine rc_ hE hP (macs_fc) Tryd.func42 ?_
  refine G_ 2 hE ?_
  refine GT_ hE (rfl) ?_
  refine GT_ hE (rfl) ?_
  refine rct_ hE hP (s1.any) Tryd.func43 (rfl) ?_
  refine GT_ hE (rfl) ?_
  refine GT_ hE (rfl) ?_
  refine GT_ hE (rfl) ?_
  refine GT_ hE (rfl) ?_
  refine GT_ hE (rfl) ?_
  generalize decide (a = b) = v
  refine GT_ hE (rfl) ?_
  refine G_ 2 hE ?_
  refine GT_ hE (rfl) ?_
  refine GT_ hE (rfl) ?_
  refine rct_ hE hP (s2.any) Tryd.func43 (rfl) ?_
  refine GT_ hE (rfl) ?_
  refine G_ 2 hE ?_
  refine GT_ hE (rfl) ?_
  refine GT_ hE (rfl) ?_
  refine GT_ hE (rfl) ?_
  refine AKT_ hE rfl ?_
  refine rct_ hE hP (s3.any) Tryd.func43 (rfl) ?_
  refine G_ 200 hE ?_
  first | refine rz ?_ | refine ZD_ ?_
  refine A_ ?_
  refine C_ hE (fun h0 => ?_) (fun h0 => ?_) <;> (try (exfalso; omega))
  · obtain rfl : a = [] := List.length_eq_zero_iff.1 (by omega)
    refine A_ ?_
    first | refine O_ ?_ | refine OD_ hm ?_
    refine G_ 200 hE ?_
    refine rc_ hE hP (s2.any) Tryd.func43 ?_
    refine G_ 200 hE ?_
    first | refine rz ?_ | refine ZD_ ?_
    refine A_ ?_
    exact ret_
  · obtain ⟨wq, hw, hq⟩ : ∃ wq, IntKind.u64.wrap at_ = wq ∧ 0 ≤ wq := ⟨_, rfl, by rw [wrap_64]; omega⟩
    have hwl : IntKind.u64.wrap (a.length : Int) = a.length := by rw [wrap_64]; omega
    have hk0 : 0 ≤ wq % (a.length : Int) := Int.emod_nonneg _ h0
    have hk1 : wq % (a.length : Int) < (a.length : Int) := Int.emod_lt_of_pos _ (by omega)
    obtain ⟨k, hk⟩ : ∃ k : Nat, wq % (a.length : Int) = k := ⟨(wq % (a.length : Int)).toNat, by omega⟩
    obtain ⟨e, he⟩ : ∃ e : Nat, wq % 8 = e := ⟨(wq % 8).toNat, by omega⟩
    have he8 : e < 8 := by omega
    have hka : k < a.length := by omega
    clear hk0 hk1
    refine A_ ?_
    first | refine O_ ?_ | refine OD_ hm ?_
    refine G_ 3 hE ?_
    rw [hw]
    refine G_ 3 hE ?_
    rw [hwl]
    refine G_ 1 hE ?_
    rw [hk]
    refine G_ 5 hE ?_
    rw [hw]
    refine G_ 1 hE ?_
    rw [he]
    refine G_ 200 hE ?_
    first | refine rz ?_ | refine ZD_ ?_
    obtain ⟨c, hc⟩ : ∃ c, c = a.set k (gb a k ^^^ shl8 1 e) := ⟨_, rfl⟩
    have hcl : c.length = a.length := by rw [hc, List.length_set]
    have hne : ¬ a = c := by rw [hc]; exact sm_ne a k _ hka (shl_ne e he8)
    have s4 := same_fc a c (by omega)
    rw [decide_eq_false hne] at s4
    rw [← hc]
    clear hc
    refine A_ ?_
    first | refine O_ ?_ | refine OD_ hm ?_
    refine G_ 200 hE ?_
    refine rc_ hE hP (s4.any) Tryd.func43 ?_
    refine G_ 200 hE ?_
    first | refine rz ?_ | refine ZD_ ?_
    refine A_ ?_
    exact ret_
end Go.Proofs.YtkokcibnkcmcjaaDoor
