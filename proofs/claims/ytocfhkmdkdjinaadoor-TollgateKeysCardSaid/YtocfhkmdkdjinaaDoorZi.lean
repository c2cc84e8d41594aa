/- What the claim leans on, text Zi: Md8, Md9, Hid. No condition beyond what each lemma states. -/
import Derived.Test.YtocfhkmdkdjinaaDoorZd
import Derived.Test.YtocfhkmdkdjinaaDoorZt
import Derived.Test.YtocfhkmdkdjinaaDoorZh
import Derived.Test.YtocfhkmdkdjinaaDoorZia
import Derived.Test.YtocfhkmdkdjinaaDoorZqh

/- old's blend, Hide and Show. Printed by wp.py. -/
namespace Go.Proofs.YtocfhkmdkdjinaaDoor
open Go Go.RowKit
set_option linter.unusedVariables false
set_option linter.unusedSimpArgs false
set_option maxRecDepth 100000
set_option maxHeartbeats 4000000
attribute [local irreducible] inR VC RG VCn sq inS lq nq jq Wk rq

/-- Sixteen bytes put together with others. -/
def xorT (s b : List UInt8) (i : Nat) : List UInt8 := ((List.range i).map fun j => gb s j ^^^ gb b j) ++ List.replicate (16 - i) 0
def xor16 (s b : List UInt8) : List UInt8 := (List.range 16).map fun j => gb s j ^^^ gb b j
theorem xor16_len (s b : List UInt8) : (xor16 s b).length = 16 := by simp [xor16]
theorem xorT_zero (s b : List UInt8) : xorT s b 0 = List.replicate 16 0 := rfl
theorem xorT_len (s b : List UInt8) (i : Nat) (h : i ≤ 16) : (xorT s b i).length = 16 := by simp [xorT]; omega
theorem xorT_end (s b : List UInt8) : xorT s b 16 = xor16 s b := by simp [xorT, xor16]
theorem xorT_set (s b : List UInt8) (i : Nat) (h : i < 16) : (xorT s b i).set i (gb s i ^^^ gb b i) = xorT s b (i + 1) := by
  unfold xorT
  have hl : ((List.range i).map fun j => gb s j ^^^ gb b j).length = i := by simp
  have hr : List.replicate (16 - i) (0 : UInt8) = 0 :: List.replicate (16 - (i + 1)) 0 := by rw [show 16 - i = 16 - (i + 1) + 1 by omega, List.replicate_succ]
  rw [hr, List.set_append_right _ _ (by omega), hl, Nat.sub_self, List.set_cons_zero, List.range_succ, List.map_append, List.append_assoc]
  rfl
/-- What a row of pieces becomes, and the beginning behind them. -/
def hidF (sec l : List UInt8) (p : List UInt8 × List UInt8) (k : Nat) : List UInt8 × List UInt8 := (xor16 (md (sec ++ p.1)) (pc l 16 k), p.2 ++ xor16 (md (sec ++ p.1)) (pc l 16 k))
def hidL (sec beg l : List UInt8) (ks : List Nat) : List UInt8 × List UInt8 := ks.foldl (hidF sec l) (beg, [])
def shoF (sec l : List UInt8) (p : List UInt8 × List UInt8) (k : Nat) : List UInt8 × List UInt8 := (pc l 16 k, p.2 ++ xor16 (md (sec ++ p.1)) (pc l 16 k))
def shoL (sec beg l : List UInt8) (ks : List Nat) : List UInt8 × List UInt8 := ks.foldl (shoF sec l) (beg, [])
theorem hidL_s (sec beg l : List UInt8) (ks : List Nat) (k : Nat) : hidL sec beg l (ks ++ [k]) = (xor16 (md (sec ++ (hidL sec beg l ks).1)) (pc l 16 k), (hidL sec beg l ks).2 ++ xor16 (md (sec ++ (hidL sec beg l ks).1)) (pc l 16 k)) := by
  unfold hidL
  rw [List.foldl_append]
  rfl
theorem shoL_s (sec beg l : List UInt8) (ks : List Nat) (k : Nat) : shoL sec beg l (ks ++ [k]) = (pc l 16 k, (shoL sec beg l ks).2 ++ xor16 (md (sec ++ (shoL sec beg l ks).1)) (pc l 16 k)) := by
  unfold shoL
  rw [List.foldl_append]
  rfl
theorem hidL_0 (sec beg l : List UInt8) : hidL sec beg l [] = (beg, []) := rfl
theorem shoL_0 (sec beg l : List UInt8) : shoL sec beg l [] = (beg, []) := rfl
theorem snoc_ind {P : List Nat → Prop} (h0 : P []) (hs : ∀ l a, P l → P (l ++ [a])) (l : List Nat) : P l := by
  rw [← List.reverse_reverse l]
  induction l.reverse with
  | nil => exact h0
  | cons a r ih => rw [List.reverse_cons]; exact hs _ _ ih
theorem hidL_len (sec beg l : List UInt8) (m : Nat) (hm : 16 ≤ m) (hb : beg.length ≤ m) (ks : List Nat) : (hidL sec beg l ks).1.length ≤ m ∧ (hidL sec beg l ks).2.length = 16 * ks.length := by
  refine snoc_ind (P := fun ks => (hidL sec beg l ks).1.length ≤ m ∧ (hidL sec beg l ks).2.length = 16 * ks.length) ⟨hb, rfl⟩ (fun r a h => ?_) ks
  show (hidL sec beg l (r ++ [a])).1.length ≤ m ∧ (hidL sec beg l (r ++ [a])).2.length = 16 * (r ++ [a]).length
  rw [hidL_s]
  simp only [xor16_len, List.length_append, h.2, List.length_singleton]
  omega
theorem pc_le (l : List UInt8) (k : Nat) : (pc l 16 k).length ≤ 16 := by unfold pc; rw [List.length_take]; omega
theorem shoL_len (sec beg l : List UInt8) (m : Nat) (hm : 16 ≤ m) (hb : beg.length ≤ m) (ks : List Nat) : (shoL sec beg l ks).1.length ≤ m ∧ (shoL sec beg l ks).2.length = 16 * ks.length := by
  refine snoc_ind (P := fun ks => (shoL sec beg l ks).1.length ≤ m ∧ (shoL sec beg l ks).2.length = 16 * ks.length) ⟨hb, rfl⟩ (fun r a h => ?_) ks
  show (shoL sec beg l (r ++ [a])).1.length ≤ m ∧ (shoL sec beg l (r ++ [a])).2.length = 16 * (r ++ [a]).length
  have := pc_le l a
  rw [shoL_s]
  simp only [xor16_len, List.length_append, h.2, List.length_singleton]
  omega
/-- As long as whole pieces. -/
def pad16 (b : List UInt8) : List UInt8 := b ++ List.replicate ((16 - b.length % 16) % 16) 0
theorem pad16_def (b : List UInt8) : b ++ List.replicate ((16 - b.length % 16) % 16) 0 = pad16 b := rfl
theorem pad16_len2 (b : List UInt8) : b.length + (16 - b.length % 16) % 16 = (pad16 b).length := by unfold pad16; rw [List.length_append, List.length_replicate]
theorem pad16_len (b : List UInt8) : (pad16 b).length % 16 = 0 ∧ b.length ≤ (pad16 b).length ∧ (pad16 b).length ≤ b.length + 15 := by
  unfold pad16
  rw [List.length_append, List.length_replicate]
  omega
theorem pc_len (l : List UInt8) (k : Nat) (h : l.length % 16 = 0) (hk : k * 16 < l.length) : (pc l 16 k).length = 16 := by
  unfold pc
  rw [List.length_take, List.length_drop]
  omega
attribute [local irreducible] md xor16 xorT hidL shoL pad16
attribute [local simp] md_len xor16_len

namespace Ublend_fc
theorem U : type_of% @md_take ∧ type_of% @md_len ∧ type_of% (@drop_rep UInt8) ∧ type_of% (@drop_rep D) ∧ type_of% (@List.take_zero UInt8) ∧ type_of% (@List.take_zero D) := ⟨@md_take, @md_len, (@drop_rep UInt8), (@drop_rep D), (@List.take_zero UInt8), (@List.take_zero D)⟩
end Ublend_fc
open Ublend_fc
theorem blend_fc (s b : List UInt8) (hs : s.length = 16) (hb : b.length = 16) : FC Tryd.prog GE 102 [.aggb s, .rob b] (.ownb (xor16 s b)) none := by
  refine fi_ 26 [4] ti_eq gpE Tryd.func102 (fun C hE hm hP hrc hrn => ?_)
  refine A_ ?_
  rw [← xorT_zero s b]
  refine vl (fun i : Nat => ⟨[(1, .rob b), (2, .ptr 2 1 0), (5, .sl 7 1 0 16), (9, .int .i64 16), (10, .int .i64 i)], [(2, ⟨⟨1, 1, s.length⟩, some (.bytes s)⟩), (7, ⟨⟨1, 1, 16⟩, some (.bytes (xorT s b i))⟩)], []⟩) (fun i => i ≤ 16) (fun i => 16 - i) 0 ?_ (Nat.zero_le _) (fun i hi => ?_)
  · exact wk_ hrc
  · have hl := xorT_len s b i hi
    repeat' (first | refine A1_ ?_ | refine C_ hE (fun hc => ?_) (fun hc => ?_) <;> (try (exfalso; omega)))
    · rw [xorT_set s b i (by omega)]
      refine lq_n (i + 1) ?_ (by omega) (by omega)
      exact wk_ hrc
    · obtain rfl : i = 16 := by omega
      rw [xorT_end]
      repeat' (first | refine A1_ ?_ | refine C_ hE (fun hc => ?_) (fun hc => ?_) <;> (try (exfalso; omega)))
      exact ret_

theorem Hide_fc (sec beg b : List UInt8) (h1 : sec.length ≤ 100000) (h2 : beg.length ≤ 100000) (h3 : b.length ≤ 100000) : FC Tryd.prog GO 69 [.rob sec, .rob beg, .rob b] (.ownb (hidL sec beg (pad16 b) (List.range (pcN (pad16 b).length 16))).2) none := by
  refine fi_ 30 [6] ti_eq gpO Tryd.func69 (fun C hE hm hP hrc hrn => ?_)
  have hp := pad16_len b
  refine A_ ?_
  first | refine O_ ?_ | refine OD_ hm ?_
  refine G_ 1 hE ?_
  refine rc_ hE hP (clone_fc GO b (by omega)) Tryd.func85 ?_
  refine G_ 5 hE ?_
  refine AZ_ 9 hE ?_
  refine G_ 200 hE ?_
  first | refine rz ?_ | refine ZD_ ?_
  rw [show (b.length : Int) % 16 = ((b.length % 16 : Nat) : Int) by omega, show ((16 - ((b.length % 16 : Nat) : Int)) % 16).toNat = (16 - b.length % 16) % 16 by omega, pad16_def, pad16_len2]
  generalize pad16 b = l at *
  refine sq_n ?_
  refine wv_ (sgb_ 2 10) ?_
  refine A_ ?_
  first | refine O_ ?_ | refine OD_ hm ?_
  refine G_ 200 hE ?_
  refine rc_ hE hP (chunk_fc GO l 16 (by omega)) Tryd.func90 ?_
  refine G_ 200 hE ?_
  first | refine rz ?_ | refine ZD_ ?_
  refine A_ ?_
  refine VC.weak ?_ (knilc 7 0 rfl rfl rfl)
  refine vf (dk := []) (sl := [(18, .chunk 115 l 16), (3, .ptr 3 1 0), (4, .ptr 4 1 0), (7, .ptr 7 1 0)]) hE hrn (by rw [hP]; exact chunk_ok) ?_ ?_ ?_ rfl rfl (fun ks => [(3, ⟨⟨1, 1, 1⟩, some (.cells [.rob sec])⟩), (4, ⟨⟨1, 1, 1⟩, some (.cells [.rob (hidL sec beg l ks).1])⟩), (7, ⟨⟨1, 1, 1⟩, some (.cells [.ownb (hidL sec beg l ks).2])⟩)]) (fun _ => True) ?_ trivial rfl [3, 4, 7] ?_ ?_ ?_ ?_
  · omega
  · omega
  · omega
  · rw [hidL_0]
    exact wk_ hrc
  · exact look_nm rfl
  · exact fun d v h => absurd h (hrc d v)
  · intro C' pre k hE hP1 hkn _ hk hpre
    have hpb := Nat.lt_of_lt_of_le hpre (pcN_le (show 0 < 16 by omega))
    have hP := hP1.trans hP
    have hm : C'.P.follows .mixedOrders = true := by rw [hP]; kernel_rfl
    clear hrc hrn
    have hpl := pc_len l k hp.1 hk
    obtain ⟨hB, hO⟩ := hidL_len sec beg l 100000 (by omega) h2 pre
    have hs1 := hidL_s sec beg l pre k
    generalize hidL sec beg l pre = BO at *
    obtain ⟨B, O⟩ := BO
    simp only at hB hO hs1 ⊢
    generalize pc l 16 k = p at *
    refine wv_ (so_ 7 0 902 0) ?_
    repeat' (first | refine A1_ ?_ | refine C_ hE (fun hc => ?_) (fun hc => ?_) <;> (try (exfalso; omega)))
    first | refine O_ ?_ | refine OD_ hm ?_
    refine G_ 200 hE ?_
    refine rc_ hE hP (oOf2_fc sec B (by omega)) Tryd.func74 ?_
    refine G_ 200 hE ?_
    refine rc_ hE hP ((blend_fc (md (sec ++ B)) p (md_len _) hpl).any) Tryd.func102 ?_
    refine rg_w (sgb_ 25 25) ?_
    refine G_ 200 hE ?_
    first | refine rz ?_ | refine ZD_ ?_
    have hx := xor16_len (md (sec ++ B)) p
    rw [hs1]
    generalize xor16 (md (sec ++ B)) p = X at *
    refine A_ ?_
    refine rq_n ?_ trivial
    refine Wk.trans (sc_ 7 0 902) ?_
    refine wk_ofk rfl ?_ ?_ (fun d v h o ho => by have := hkn d v h o ho; simp at this ⊢; try omega) <;> (repeat' apply And.intro) <;> first | exact trivial | rfl | (intro o ho; simp [D.nm, nmL, ctNm, nmL_ownb, nmL_rob, nmL_str, nmL_cz] at ho <;> fail) | (intro o ho; simp [D.nm, nmL, ctNm, nmL_ownb, nmL_rob, nmL_str, nmL_cz] at ho ⊢ <;> omega) | (simp only [Z, U, Int.cast_ofNat_Int, UInt8.reduceToNat, UInt32.reduceToNat, Nat.reduceAdd, Nat.reduceMul, Nat.reduceSub, Nat.reduceLeDiff, Int.reduceToNat, Int.reducePow, Nat.reducePow] <;> fail) | (simp [St.ob, St.slot, look] <;> fail) | (simp [St.ob, St.slot, look]; omega) | simp [St.ob, St.slot, look] | skip
    · rw [← List.length_append, List.take_length]
  · intro dk' _
    refine in_n ?_
    refine sq_n ?_
    have hlen := (hidL_len sec beg l 100000 (by omega) h2 (List.range (pcN l.length 16))).2
    generalize hidL sec beg l (List.range (pcN l.length 16)) = BO at *
    obtain ⟨B, O⟩ := BO
    simp only at hlen ⊢
    refine wv_ (so_ 7 0 902 0) ?_
    refine A_ ?_
    exact ret_

theorem Show_fc (sec beg l : List UInt8) (h1 : sec.length ≤ 100000) (h2 : beg.length ≤ 100000) (h3 : l.length ≤ 100000) : FC Tryd.prog GO 79 [.rob sec, .rob beg, .rob l] (.ownb (if l.length % 16 = 0 then (shoL sec beg l (List.range (pcN l.length 16))).2 else [])) none := by
  refine fi_ 26 [6] ti_eq gpO Tryd.func79 (fun C hE hm hP hrc hrn => ?_)
  by_cases h16 : l.length % 16 = 0
  · rw [if_pos h16]
    repeat' (first | refine A1_ ?_ | refine C_ hE (fun hc => ?_) (fun hc => ?_) <;> (try (exfalso; omega)))
    first | refine O_ ?_ | refine OD_ hm ?_
    refine G_ 200 hE ?_
    refine rc_ hE hP (chunk_fc GO l 16 (by omega)) Tryd.func90 ?_
    refine G_ 200 hE ?_
    first | refine rz ?_ | refine ZD_ ?_
    refine A_ ?_
    refine VC.weak ?_ (knilc 7 0 rfl rfl rfl)
    refine vf (dk := []) (sl := [(14, .chunk 115 l 16), (3, .ptr 3 1 0), (4, .ptr 4 1 0), (7, .ptr 7 1 0)]) hE hrn (by rw [hP]; exact chunk_ok) ?_ ?_ ?_ rfl rfl (fun ks => [(3, ⟨⟨1, 1, 1⟩, some (.cells [.rob sec])⟩), (4, ⟨⟨1, 1, 1⟩, some (.cells [.rob (shoL sec beg l ks).1])⟩), (7, ⟨⟨1, 1, 1⟩, some (.cells [.ownb (shoL sec beg l ks).2])⟩)]) (fun _ => True) ?_ trivial rfl [3, 4, 7] ?_ ?_ ?_ ?_
    · omega
    · omega
    · omega
    · rw [shoL_0]
      exact wk_ hrc
    · exact look_nm rfl
    · exact fun d v h => absurd h (hrc d v)
    · intro C' pre k hE hP1 hkn _ hk hpre
      have hpb := Nat.lt_of_lt_of_le hpre (pcN_le (show 0 < 16 by omega))
      have hP := hP1.trans hP
      have hm : C'.P.follows .mixedOrders = true := by rw [hP]; kernel_rfl
      clear hrc hrn
      have hpl := pc_len l k h16 hk
      obtain ⟨hB, hO⟩ := shoL_len sec beg l 100000 (by omega) h2 pre
      have hs1 := shoL_s sec beg l pre k
      generalize shoL sec beg l pre = BO at *
      obtain ⟨B, O⟩ := BO
      simp only at hB hO hs1 ⊢
      generalize pc l 16 k = p at *
      have hx := xor16_len (md (sec ++ B)) p
      refine wv_ (so_ 7 0 902 0) ?_
      repeat' (first | refine A1_ ?_ | refine C_ hE (fun hc => ?_) (fun hc => ?_) <;> (try (exfalso; omega)))
      first | refine O_ ?_ | refine OD_ hm ?_
      refine G_ 200 hE ?_
      refine rc_ hE hP (oOf2_fc sec B (by omega)) Tryd.func74 ?_
      refine G_ 200 hE ?_
      refine rc_ hE hP ((blend_fc (md (sec ++ B)) p (md_len _) hpl).any) Tryd.func102 ?_
      refine G_ 200 hE ?_
      first | refine rz ?_ | refine ZD_ ?_
      rw [hs1]
      generalize xor16 (md (sec ++ B)) p = X at *
      refine A_ ?_
      refine rq_n ?_ trivial
      refine Wk.trans (sc_ 7 0 902) ?_
      refine wk_ofk rfl ?_ ?_ (fun d v h o ho => by have := hkn d v h o ho; simp at this ⊢; try omega) <;> (repeat' apply And.intro) <;> first | exact trivial | rfl | (intro o ho; simp [D.nm, nmL, ctNm, nmL_ownb, nmL_rob, nmL_str, nmL_cz] at ho <;> fail) | (intro o ho; simp [D.nm, nmL, ctNm, nmL_ownb, nmL_rob, nmL_str, nmL_cz] at ho ⊢ <;> omega) | (simp only [Z, U, Int.cast_ofNat_Int, UInt8.reduceToNat, UInt32.reduceToNat, Nat.reduceAdd, Nat.reduceMul, Nat.reduceSub, Nat.reduceLeDiff, Int.reduceToNat, Int.reducePow, Nat.reducePow] <;> fail) | (simp [St.ob, St.slot, look] <;> fail) | (simp [St.ob, St.slot, look]; omega) | simp [St.ob, St.slot, look] | skip
      · rw [← List.length_append, List.take_length]
    · intro dk' _
      refine in_n ?_
      refine sq_n ?_
      have hlen := (shoL_len sec beg l 100000 (by omega) h2 (List.range (pcN l.length 16))).2
      generalize shoL sec beg l (List.range (pcN l.length 16)) = BO at *
      obtain ⟨B, O⟩ := BO
      simp only at hlen ⊢
      refine wv_ (so_ 7 0 902 0) ?_
      refine A_ ?_
      exact ret_
  · rw [if_neg h16]
    repeat' (first | refine A1_ ?_ | refine C_ hE (fun hc => ?_) (fun hc => ?_) <;> (try (exfalso; omega)))
    exact ret_
end Go.Proofs.YtocfhkmdkdjinaaDoor

/- The reference's Hide. Printed by wp.py. -/
namespace Go.Proofs.YtocfhkmdkdjinaaDoor
open Go Go.RowKit
set_option linter.unusedVariables false
set_option linter.unusedSimpArgs false
set_option maxRecDepth 100000
set_option maxHeartbeats 4000000
attribute [local irreducible] inR VC RG VCn sq inS lq nq jq Wk rq
theorem pcN_16 (n : Nat) (h : n % 16 = 0) : pcN n 16 = n / 16 := by unfold pcN; omega
/-- So many bytes put together. -/
def xorP (s b : List UInt8) (i : Nat) : List UInt8 := (List.range i).map fun j => gb s j ^^^ gb b j
theorem xorP_zero (s b : List UInt8) : xorP s b 0 = [] := rfl
theorem xorP_len (s b : List UInt8) (i : Nat) : (xorP s b i).length = i := by simp [xorP]
theorem xorP_end (s b : List UInt8) : xorP s b 16 = xor16 s b := rfl
theorem pc_gb (l : List UInt8) (j i : Nat) (h : i < 16) : gb (pc l 16 j) i = gb l (16 * j + i) := by
  unfold pc
  rw [gb_take _ h, gb_drop, Nat.mul_comm]
theorem xorP_succ (s l : List UInt8) (j i : Nat) (h : i < 16) : xorP s (pc l 16 j) (i + 1) = xorP s (pc l 16 j) i ++ [gb l (16 * j + i) ^^^ gb s i] := by
  unfold xorP
  rw [List.range_succ, List.map_append, List.map_singleton, pc_gb l j i h, UInt8.xor_comm]
/-- Noughts behind, so many. -/
def padz (b : List UInt8) (z : Nat) : List UInt8 := b ++ List.replicate z 0
theorem padz_zero (b : List UInt8) : padz b 0 = b := by simp [padz]
theorem padz_succ (b : List UInt8) (z : Nat) : padz b (z + 1) = padz b z ++ [0] := by unfold padz; rw [List.replicate_succ', List.append_assoc]
theorem padz_len (b : List UInt8) (z : Nat) : (padz b z).length = b.length + z := by simp [padz]
theorem padz_end (b : List UInt8) : padz b ((16 - b.length % 16) % 16) = pad16 b := pad16_def b
theorem pc_str (l : List UInt8) (j : Nat) : (l.drop (16 * j)).take 16 = pc l 16 j := by unfold pc; rw [Nat.mul_comm]
theorem pc_dt (l : List UInt8) (j : Nat) : (l.take (16 * (j + 1))).drop (16 * j) = pc l 16 j := by rw [List.drop_take, show 16 * (j + 1) - 16 * j = 16 by omega]; exact pc_str l j
attribute [local irreducible] md xor16 hidL shoL pad16 xorP padz pc
attribute [local simp] md_len xor16_len

namespace UrHide_fc
theorem U : type_of% @md_take ∧ type_of% @md_len ∧ type_of% (@drop_rep UInt8) ∧ type_of% (@drop_rep D) ∧ type_of% (@List.take_zero UInt8) ∧ type_of% (@List.take_zero D) := ⟨@md_take, @md_len, (@drop_rep UInt8), (@drop_rep D), (@List.take_zero UInt8), (@List.take_zero D)⟩
end UrHide_fc
open UrHide_fc
theorem rHide_fc (sec beg b : List UInt8) (h1 : sec.length ≤ 100000) (h2 : beg.length ≤ 100000) (h3 : b.length ≤ 100000) : FC Tryd.prog GE 81 [.str sec, .str beg, .str b, .bool false] (.str (hidL sec beg (pad16 b) (List.range (pcN (pad16 b).length 16))).2) none := by
  refine fi_ 66 [8] ti_eq gpE Tryd.func81 (fun C hE hm hP hrc hrn => ?_)
  have hp := pad16_len b
  repeat' (first | refine A1_ ?_ | refine C_ hE (fun hc => ?_) (fun hc => ?_) <;> (try (exfalso; omega)))
  refine vl (fun z : Nat => ⟨[(0, .str sec), (1, .str beg), (2, .str (padz b z)), (3, .bool false)], [], []⟩) (fun z => z ≤ (16 - b.length % 16) % 16) (fun z => 16 - z) 0 ?_ (Nat.zero_le _) (fun z hz => ?_)
  · rw [padz_zero]
    exact wk_ hrc
  · have hzl := padz_len b z
    repeat' (first | refine A1_ ?_ | refine C_ hE (fun hc => ?_) (fun hc => ?_) <;> (try (exfalso; omega)))
    · refine lq_n (z + 1) ?_ (by omega) (by omega)
      rw [padz_succ]
      exact wk_ hrc
    · obtain rfl : z = (16 - b.length % 16) % 16 := by omega
      rw [padz_end, pcN_16 _ hp.1]
      clear hc hzl hz
      generalize pad16 b = l at *
      refine VC.weak ?_ (kniln 9 960 1 (c := .bytes []) rfl rfl rfl)
      refine vl (fun j : Nat => ⟨[(0, .str sec), (1, .str (hidL sec beg l (List.range j)).1), (2, .str l), (3, .bool false), (9, .sl 960 (1 + j) 0 (hidL sec beg l (List.range j)).2.length), (10, .int .i64 ((16 * j : Nat) : Int))], [(960, ⟨⟨1 + j, 1, (hidL sec beg l (List.range j)).2.length⟩, some (.bytes (hidL sec beg l (List.range j)).2)⟩)], []⟩) (fun j => 16 * j ≤ l.length) (fun j => l.length - 16 * j) 0 ?_ (Nat.zero_le _) (fun j hj => ?_)
      · rw [List.range_zero, hidL_0]
        exact wk_ hrc
      · repeat' (first | refine A1_ ?_ | refine C_ hE (fun hc => ?_) (fun hc => ?_) <;> (try (exfalso; omega)))
        · have hj2 : 16 * j + 16 ≤ l.length := by omega
          have hlen := hidL_len sec beg l 100000 (by omega) h2 (List.range j)
          have hs1 := hidL_s sec beg l (List.range j) j
          rw [← List.range_succ] at hs1
          rw [List.length_range] at hlen
          generalize hidL sec beg l (List.range j) = BO at *
          obtain ⟨B, O⟩ := BO
          obtain ⟨hB, hO⟩ := hlen
          simp only at hB hO hs1 ⊢
          have hM := md_len (sec ++ B)
          first | refine O_ ?_ | refine OD_ hm ?_
          refine G_ 200 hE ?_
          refine rc_ hE hP (rMd_fc (sec ++ B) (by rw [List.length_append]; omega)) Tryd.func87 ?_
          refine G_ 200 hE ?_
          first | refine rz ?_ | refine ZD_ ?_
          generalize md (sec ++ B) = M at *
          refine A_ ?_
          refine VC.weak ?_ (kniln 12 970 1 (c := .bytes []) rfl rfl rfl)
          refine vl (fun i : Nat => ⟨[(0, .str sec), (1, .str B), (2, .str l), (3, .bool false), (9, .sl 960 (1 + j) 0 O.length), (10, .int .i64 ((16 * j : Nat) : Int)), (11, .str M), (12, .sl 970 (1 + i) 0 (xorP M (pc l 16 j) i).length), (13, .int .i64 i)], [(960, ⟨⟨1 + j, 1, O.length⟩, some (.bytes O)⟩), (970, ⟨⟨1 + i, 1, (xorP M (pc l 16 j) i).length⟩, some (.bytes (xorP M (pc l 16 j) i))⟩)], []⟩) (fun i => i ≤ 16) (fun i => 16 - i) 0 ?_ (Nat.zero_le _) (fun i hi => ?_)
          · rw [xorP_zero]
            exact wk_ hrc
          · have hxl := xorP_len M (pc l 16 j) i
            repeat' (first | refine A1_ ?_ | refine C_ hE (fun hc => ?_) (fun hc => ?_) <;> (try (exfalso; omega)))
            · refine lq_n (i + 1) ?_ (by omega) (by omega)
              rw [show (((16 * j : Nat) : Int) + (i : Int)).toNat = 16 * j + i by omega, xorP_succ M l j i (by omega), List.length_append]
              exact wk_ hrc
            · obtain rfl : i = 16 := by omega
              rw [xorP_end]
              have hx := xor16_len M (pc l 16 j)
              generalize xor16 M (pc l 16 j) = X at *
              repeat' (first | refine A1_ ?_ | refine C_ hE (fun hc => ?_) (fun hc => ?_) <;> (try (exfalso; omega)))
              rw [show ((16 * j : Nat) : Int) + 16 = ((16 * (j + 1) : Nat) : Int) by omega]
              refine lq_n (j + 1) ?_ (by omega) (by omega)
              rw [hs1]
              exact wk_ hrc
        · obtain rfl : j = l.length / 16 := by omega
          have hlen := (hidL_len sec beg l 100000 (by omega) h2 (List.range (l.length / 16))).2
          generalize hidL sec beg l (List.range (l.length / 16)) = BO at *
          obtain ⟨B, O⟩ := BO
          simp only at hlen ⊢
          repeat' (first | refine A1_ ?_ | refine C_ hE (fun hc => ?_) (fun hc => ?_) <;> (try (exfalso; omega)))
          exact ret_

theorem rShow_fc (sec beg l : List UInt8) (h1 : sec.length ≤ 100000) (h2 : beg.length ≤ 100000) (h3 : l.length ≤ 100000) : FC Tryd.prog GE 81 [.str sec, .str beg, .str l, .bool true] (.str (if l.length % 16 = 0 then (shoL sec beg l (List.range (pcN l.length 16))).2 else [])) none := by
  refine fi_ 66 [8] ti_eq gpE Tryd.func81 (fun C hE hm hP hrc hrn => ?_)
  by_cases h16 : l.length % 16 = 0
  · rw [if_pos h16, pcN_16 _ h16]
    repeat' (first | refine A1_ ?_ | refine C_ hE (fun hc => ?_) (fun hc => ?_) <;> (try (exfalso; omega)))
    refine vl (fun z : Nat => ⟨[(0, .str sec), (1, .str beg), (2, .str l), (3, .bool true)], [], []⟩) (fun z => z = 0) (fun z => 16 - z) 0 ?_ rfl (fun z hz => ?_)
    · exact wk_ hrc
    · repeat' (first | refine A1_ ?_ | refine C_ hE (fun hc => ?_) (fun hc => ?_) <;> (try (exfalso; omega)))
      refine VC.weak ?_ (kniln 9 960 1 (c := .bytes []) rfl rfl rfl)
      refine vl (fun j : Nat => ⟨[(0, .str sec), (1, .str (shoL sec beg l (List.range j)).1), (2, .str l), (3, .bool true), (9, .sl 960 (1 + j) 0 (shoL sec beg l (List.range j)).2.length), (10, .int .i64 ((16 * j : Nat) : Int))], [(960, ⟨⟨1 + j, 1, (shoL sec beg l (List.range j)).2.length⟩, some (.bytes (shoL sec beg l (List.range j)).2)⟩)], []⟩) (fun j => 16 * j ≤ l.length) (fun j => l.length - 16 * j) 0 ?_ (Nat.zero_le _) (fun j hj => ?_)
      · rw [List.range_zero, shoL_0]
        exact wk_ hrc
      · repeat' (first | refine A1_ ?_ | refine C_ hE (fun hc => ?_) (fun hc => ?_) <;> (try (exfalso; omega)))
        · have hj2 : 16 * j + 16 ≤ l.length := by omega
          have hlen := shoL_len sec beg l 100000 (by omega) h2 (List.range j)
          have hs1 := shoL_s sec beg l (List.range j) j
          rw [← List.range_succ] at hs1
          rw [List.length_range] at hlen
          generalize shoL sec beg l (List.range j) = BO at *
          obtain ⟨B, O⟩ := BO
          obtain ⟨hB, hO⟩ := hlen
          simp only at hB hO hs1 ⊢
          have hM := md_len (sec ++ B)
          first | refine O_ ?_ | refine OD_ hm ?_
          refine G_ 200 hE ?_
          refine rc_ hE hP (rMd_fc (sec ++ B) (by rw [List.length_append]; omega)) Tryd.func87 ?_
          refine G_ 200 hE ?_
          first | refine rz ?_ | refine ZD_ ?_
          generalize md (sec ++ B) = M at *
          refine A_ ?_
          refine VC.weak ?_ (kniln 12 970 1 (c := .bytes []) rfl rfl rfl)
          refine vl (fun i : Nat => ⟨[(0, .str sec), (1, .str B), (2, .str l), (3, .bool true), (9, .sl 960 (1 + j) 0 O.length), (10, .int .i64 ((16 * j : Nat) : Int)), (11, .str M), (12, .sl 970 (1 + i) 0 (xorP M (pc l 16 j) i).length), (13, .int .i64 i)], [(960, ⟨⟨1 + j, 1, O.length⟩, some (.bytes O)⟩), (970, ⟨⟨1 + i, 1, (xorP M (pc l 16 j) i).length⟩, some (.bytes (xorP M (pc l 16 j) i))⟩)], []⟩) (fun i => i ≤ 16) (fun i => 16 - i) 0 ?_ (Nat.zero_le _) (fun i hi => ?_)
          · rw [xorP_zero]
            exact wk_ hrc
          · have hxl := xorP_len M (pc l 16 j) i
            repeat' (first | refine A1_ ?_ | refine C_ hE (fun hc => ?_) (fun hc => ?_) <;> (try (exfalso; omega)))
            · refine lq_n (i + 1) ?_ (by omega) (by omega)
              rw [show (((16 * j : Nat) : Int) + (i : Int)).toNat = 16 * j + i by omega, xorP_succ M l j i (by omega), List.length_append]
              exact wk_ hrc
            · obtain rfl : i = 16 := by omega
              rw [xorP_end]
              have hx := xor16_len M (pc l 16 j)
              generalize xor16 M (pc l 16 j) = X at *
              repeat' (first | refine A1_ ?_ | refine C_ hE (fun hc => ?_) (fun hc => ?_) <;> (try (exfalso; omega)))
              rw [show ((16 * j : Nat) : Int) + 16 = ((16 * (j + 1) : Nat) : Int) by omega, Int.toNat_natCast, pc_dt]
              refine lq_n (j + 1) ?_ (by omega) (by omega)
              rw [hs1]
              exact wk_ hrc
        · obtain rfl : j = l.length / 16 := by omega
          have hlen := (shoL_len sec beg l 100000 (by omega) h2 (List.range (l.length / 16))).2
          generalize shoL sec beg l (List.range (l.length / 16)) = BO at *
          obtain ⟨B, O⟩ := BO
          simp only at hlen ⊢
          repeat' (first | refine A1_ ?_ | refine C_ hE (fun hc => ?_) (fun hc => ?_) <;> (try (exfalso; omega)))
          exact ret_
  · rw [if_neg h16]
    repeat' (first | refine A1_ ?_ | refine C_ hE (fun hc => ?_) (fun hc => ?_) <;> (try (exfalso; omega)))
    exact ret_
end Go.Proofs.YtocfhkmdkdjinaaDoor

/- What is hidden is shown again, in plain Lean. -/
namespace Go.Proofs.YtocfhkmdkdjinaaDoor
open Go Go.RowKit
set_option linter.unusedVariables false
set_option linter.unusedSimpArgs false

theorem hid_pre (sec beg l : List UInt8) : ∀ d j, ((hidL sec beg l (List.range (j + d))).2).take (16 * j) = (hidL sec beg l (List.range j)).2
  | 0, j => by
    have h := (hidL_len sec beg l (max 16 beg.length) (by omega) (by omega) (List.range j)).2
    rw [List.length_range] at h
    rw [Nat.add_zero]
    exact List.take_of_length_le (by omega)
  | d + 1, j => by
    have ih := hid_pre sec beg l d j
    have h := (hidL_len sec beg l (max 16 beg.length) (by omega) (by omega) (List.range (j + d))).2
    rw [List.length_range] at h
    rw [show j + (d + 1) = (j + d) + 1 by omega, List.range_succ, hidL_s]
    show List.take (16 * j) ((hidL sec beg l (List.range (j + d))).2 ++ _) = _
    rw [List.take_append_of_le_length (by omega), ih]
theorem xor16_twice (s p : List UInt8) (h : p.length = 16) : xor16 s (xor16 s p) = p := by
  apply List.ext_getElem
  · rw [xor16_len, h]
  · intro i h1 h2
    have hi : i < 16 := by rw [xor16_len] at h1; exact h1
    have e1 : gb (xor16 s p) i = gb s i ^^^ gb p i := by
      unfold xor16 gb
      rw [List.getD_eq_getElem?_getD, List.getElem?_map, List.getElem?_range hi]
      rfl
    have e2 : gb p i = p[i] := by
      unfold gb
      rw [List.getD_eq_getElem?_getD, List.getElem?_eq_getElem h2]
      rfl
    have e3 : (xor16 s (xor16 s p))[i] = gb s i ^^^ gb (xor16 s p) i := by
      simp [xor16]
    refine Eq.trans e3 ?_
    rw [e1, e2, ← UInt8.xor_assoc, UInt8.xor_self, UInt8.zero_xor]
theorem hid_sho (sec beg l H : List UInt8) (K : Nat) (hl : l.length = 16 * K) (hH : H = (hidL sec beg l (List.range K)).2) : ∀ j, j ≤ K → shoL sec beg H (List.range j) = ((hidL sec beg l (List.range j)).1, l.take (16 * j))
  | 0, _ => by rw [List.range_zero, shoL_0, hidL_0]; simp
  | j + 1, hj => by
    have ih := hid_sho sec beg l H K hl hH j (by omega)
    have hp : (pc l 16 j).length = 16 := pc_len l j (by omega) (by omega)
    have hO := (hidL_len sec beg l (max 16 beg.length) (by omega) (by omega) (List.range j)).2
    rw [List.length_range] at hO
    have hq := hid_pre sec beg l (K - (j + 1)) (j + 1)
    rw [show j + 1 + (K - (j + 1)) = K by omega, ← hH] at hq
    rw [List.range_succ, shoL_s, hidL_s, ih]
    rw [List.range_succ, hidL_s] at hq
    generalize hidL sec beg l (List.range j) = BO at *
    obtain ⟨B, O⟩ := BO
    simp only at hO hq ⊢
    have hX : pc H 16 j = xor16 (md (sec ++ B)) (pc l 16 j) := by
      rw [← pc_dt, hq, ← hO, List.drop_left]
    rw [hX, xor16_twice _ _ hp]
    congr 1
    rw [← pc_str l j, show 16 * (j + 1) = 16 * j + 16 by omega, List.take_add]
theorem hid_back (sec beg b : List UInt8) : (shoL sec beg (hidL sec beg (pad16 b) (List.range (pcN (pad16 b).length 16))).2 (List.range (pcN (hidL sec beg (pad16 b) (List.range (pcN (pad16 b).length 16))).2.length 16))).2 = pad16 b := by
  obtain ⟨hp, _, _⟩ := pad16_len b
  generalize pad16 b = l at *
  have hl : l.length = 16 * pcN l.length 16 := by rw [pcN_16 _ hp]; omega
  have hO := (hidL_len sec beg l (max 16 beg.length) (by omega) (by omega) (List.range (pcN l.length 16))).2
  rw [List.length_range] at hO
  generalize hK : pcN l.length 16 = K at *
  have h := hid_sho sec beg l _ K hl rfl K (Nat.le_refl _)
  rw [hO, ← hl, hK, h]
  exact List.take_of_length_le (by omega)
theorem hid_len (sec beg b : List UInt8) : (hidL sec beg (pad16 b) (List.range (pcN (pad16 b).length 16))).2.length = (pad16 b).length := by
  obtain ⟨hp, _, _⟩ := pad16_len b
  have hO := (hidL_len sec beg (pad16 b) (max 16 beg.length) (by omega) (by omega) (List.range (pcN (pad16 b).length 16))).2
  rw [List.length_range, pcN_16 _ hp] at hO
  rw [pcN_16 _ hp]
  omega
theorem pad16_take (b : List UInt8) : (pad16 b).take b.length = b := by unfold pad16; rw [List.take_left]
theorem pad16_z (b : List UInt8) (i : Nat) (h : b.length ≤ i) : gb (pad16 b) i = 0 := by
  unfold pad16 gb
  rw [List.getD_eq_getElem?_getD, List.getElem?_append_right h, List.getElem?_replicate]
  split <;> rfl
end Go.Proofs.YtocfhkmdkdjinaaDoor
