/- What the claim leans on, text Zqc: Md6. No condition beyond what each lemma states. -/
import Derived.Test.YtkokcibnkcmcjaaDoorZd
import Derived.Test.YtkokcibnkcmcjaaDoorZt
import Derived.Test.YtkokcibnkcmcjaaDoorZq
import Derived.Test.YtkokcibnkcmcjaaDoorZp
import Derived.Test.YtkokcibnkcmcjaaDoorZm
import Derived.Test.YtkokcibnkcmcjaaDoorZqa

/- old's pad and Mac; the reference's Mac. Printed by wp.py. -/
namespace Go.Proofs.YtkokcibnkcmcjaaDoor
open Go Go.RowKit
set_option linter.unusedVariables false
set_option linter.unusedSimpArgs false
set_option maxRecDepth 100000
set_option maxHeartbeats 4000000
attribute [local irreducible] inR VC RG VCn sq inS lq nq jq Wk

/-- A key put together with a byte, so many of its bytes. -/
def padO (k : List UInt8) (x : UInt8) (i : Nat) : List UInt8 := (k.take i).map (fun b => b ^^^ x) ++ List.replicate (64 - i) x
theorem padO_zero (k : List UInt8) (x : UInt8) : padO k x 0 = List.replicate 64 x := rfl
theorem padO_len (k : List UInt8) (x : UInt8) (i : Nat) (h : i ≤ k.length) (h2 : k.length ≤ 64) : (padO k x i).length = 64 := by simp [padO]; omega
theorem padO_set (k : List UInt8) (x : UInt8) {i : Nat} (h : i < k.length) (h2 : k.length ≤ 64) : (padO k x i).set i (gb (padO k x i) i ^^^ gb k i) = padO k x (i + 1) := by
  have hl : ((k.take i).map (fun b => b ^^^ x)).length = i := by simp; omega
  have hr : List.replicate (64 - i) x = x :: List.replicate (64 - (i + 1)) x := by rw [show 64 - i = 64 - (i + 1) + 1 by omega, List.replicate_succ]
  have hg : gb (padO k x i) i = x := by
    unfold gb padO
    rw [hr, List.getD_eq_getElem?_getD, List.getElem?_append_right (by omega), hl, Nat.sub_self]
    rfl
  have hk : gb k i = k[i] := by
    unfold gb
    rw [List.getD_eq_getElem?_getD, List.getElem?_eq_getElem h]
    rfl
  rw [hg, hk]
  unfold padO
  rw [hr, List.set_append_right _ _ (by omega), hl, Nat.sub_self, List.set_cons_zero, List.take_add_one, List.getElem?_eq_getElem h, Option.toList_some, List.map_append, List.append_assoc, UInt8.xor_comm]
  rfl
theorem padO_end (k : List UInt8) (x : UInt8) : padO k x k.length = padK k x := by
  rw [padK_def, kz_def, List.map_append, List.map_replicate]
  unfold padO
  rw [List.take_length, UInt8.zero_xor]
/-- A key that fits a block; a mark by it. -/
def kfitM (k : List UInt8) : List UInt8 := if 64 < k.length then md k else k
def hmM (k m : List UInt8) : List UInt8 := md (padK (kfitM k) 92 ++ md (padK (kfitM k) 54 ++ m))
theorem kfitM_big {k : List UInt8} (h : 64 < k.length) : kfitM k = md k := if_pos h
theorem kfitM_small {k : List UInt8} (h : ¬64 < k.length) : kfitM k = k := if_neg h
theorem hmM_len (k m : List UInt8) : (hmM k m).length = 16 := md_len _
theorem hmM_take (k m : List UInt8) : (hmM k m).take 16 = hmM k m := md_take _
theorem hmM_def (k q m : List UInt8) (h : q = kfitM k) : hmM k m = md (padK q 92 ++ md (padK q 54 ++ m)) := by subst h; rfl
theorem hmM_md (k m : List UInt8) (h : 64 < k.length) : hmM (md k) m = hmM k m := by
  rw [hmM_def (md k) (md k) m (kfitM_small (by rw [md_len]; decide)).symm, hmM_def k (md k) m (kfitM_big h).symm]
theorem kz_pad (k : List UInt8) (n : Nat) (h : k.length + n ≤ 64) : kz (k ++ List.replicate n 0) = kz k := by
  rw [kz_def, kz_def, List.append_assoc, List.length_append, List.length_replicate, List.replicate_append_replicate]
  congr 2
  omega
theorem hmM_pad (k m : List UInt8) (n : Nat) (h : k.length + n ≤ 64) : hmM (k ++ List.replicate n 0) m = hmM k m := by
  rw [hmM_def (k ++ List.replicate n 0) _ m (kfitM_small (by rw [List.length_append, List.length_replicate]; omega)).symm, hmM_def k k m (kfitM_small (by omega)).symm, padK_def, padK_def, padK_def, padK_def, kz_pad k n h]
theorem oOf1_fc (p : List UInt8) (hb : p.length ≤ 100000000000) : FC Tryd.prog GO 29 [.rof 1 [p].length (fun i _ => .rob ([p].getD i []))] (.aggb (md p)) none := by
  have h := oOf_fc [p] (by simp) (by simpa using hb)
  rw [show [p].flatten = p by simp] at h
  exact h
theorem oOf2_fc (p q : List UInt8) (hb : p.length + q.length ≤ 100000000000) : FC Tryd.prog GO 29 [.rof 1 [p, q].length (fun i _ => .rob ([p, q].getD i []))] (.aggb (md (p ++ q))) none := by
  have h := oOf_fc [p, q] (by simp) (by simpa using hb)
  rw [show [p, q].flatten = p ++ q by simp] at h
  exact h
theorem oOfC_fc (p : List UInt8) (ps : List (List UInt8)) (hn : ps.length ≤ 100000) (hb : p.length + ps.flatten.length ≤ 100000000000) : FC Tryd.prog GO 29 [.rof 1 (p :: ps).length (fun i _ => .rob ((p :: ps).getD i []))] (.aggb (md (p ++ ps.flatten))) none := by
  have h := oOf_fc (p :: ps) (by simp; omega) (by simpa using hb)
  rw [show (p :: ps).flatten = p ++ ps.flatten by simp] at h
  exact h
theorem rob_rsc (ps : List (List UInt8)) : ((List.range ps.length).map (fun i => D.rob (ps.getD i []))).all D.sc = true := by
  rw [List.all_map]
  exact List.all_eq_true.2 fun _ _ => rfl
theorem rob_range (ps : List (List UInt8)) : (List.range ps.length).map (fun i => D.rob (ps.getD i [])) = ps.map D.rob := by
  apply List.ext_getElem
  · simp
  · intro i h1 h2
    have h3 : i < ps.length := by simpa using h1
    simp [List.getD_eq_getElem?_getD, h3]
theorem rob_cons (p : List UInt8) (ps : List (List UInt8)) : D.rob p :: ps.map D.rob = (p :: ps).map D.rob := rfl
attribute [local irreducible] md hmM kfitM kz padK padO
attribute [local simp] md_len hmM_len

namespace UoPad_fc
theorem U : type_of% @md_take ∧ type_of% @md_len ∧ type_of% (@drop_rep UInt8) ∧ type_of% (@drop_rep D) ∧ type_of% (@List.take_zero UInt8) ∧ type_of% (@List.take_zero D) ∧ type_of% @padK_len ∧ type_of% @hmM_len := ⟨@md_take, @md_len, (@drop_rep UInt8), (@drop_rep D), (@List.take_zero UInt8), (@List.take_zero D), @padK_len, @hmM_len⟩
end UoPad_fc
open UoPad_fc
theorem oPad_fc (k : List UInt8) (x : UInt8) (hk : k.length ≤ 64) : FC Tryd.prog GE 78 [.rob k, .u8 x] (.ownb (padK k x)) none := by
  refine fi_ 27 [4] ti_eq gpE Tryd.func78 (fun C hE hm hP hrc hrn => ?_)
  refine A_ ?_
  first | refine O_ ?_ | refine OD_ hm ?_
  refine G_ 200 hE ?_
  refine rc_ hE hP (repeat_fc x) Tryd.func86 ?_
  refine G_ 200 hE ?_
  first | refine rz ?_ | refine ZD_ ?_
  rw [← padO_zero k x]
  refine A_ ?_
  refine vl (fun i : Nat => ⟨[(5, .sl 10 1 0 64), (11, .rob k), (12, .int .i64 k.length), (13, .int .i64 i)], [(10, ⟨⟨1, 1, 64⟩, some (.bytes (padO k x i))⟩)], []⟩) (fun i => i ≤ k.length) (fun i => k.length - i) 0 ?_ (Nat.zero_le _) (fun i hi => ?_)
  · exact wk_ hrc
  · have hl := padO_len k x i hi hk
    repeat' (first | refine A1_ ?_ | refine C_ hE (fun hc => ?_) (fun hc => ?_) <;> (try (exfalso; omega)))
    · rw [padO_set k x (show i < k.length by omega) hk]
      refine lq_n (i + 1) ?_ (by omega) (by omega)
      exact wk_ hrc
    · obtain rfl : i = k.length := by omega
      rw [padO_end k x] at hl ⊢
      repeat' (first | refine A1_ ?_ | refine C_ hE (fun hc => ?_) (fun hc => ?_) <;> (try (exfalso; omega)))
      exact ret_

theorem oMac_fc (k : List UInt8) (ps : List (List UInt8)) (hk : k.length ≤ 10000000) (hn : ps.length ≤ 100000) (hb : ps.flatten.length ≤ 10000000000) : FC Tryd.prog GO 37 [.rob k, .rof 1 ps.length (fun i _ => .rob (ps.getD i []))] (.aggb (hmM k ps.flatten)) none := by
  refine fic_ 25 ti_eq gpO Tryd.func37 (fun C hE hm hP hrc hrn => ?_)
  have hsc := rob_rsc ps
  by_cases hk64 : 64 < k.length
  · have hq := hmM_def k (md k) ps.flatten (kfitM_big hk64).symm
    have h32 : (md k).length ≤ 64 := by rw [md_len]; decide
    have hp1 := padK_len 54 h32
    have hp2 := padK_len 92 h32
    have hs := md_len k
    rw [hq]
    clear hq
    repeat' (first | refine A1_ ?_ | refine C_ hE (fun hc => ?_) (fun hc => ?_) <;> (try (exfalso; omega)))
    first | refine O_ ?_ | refine OD_ hm ?_
    refine G_ 200 hE ?_
    refine rc_ hE hP (oOf1_fc k (by omega)) Tryd.func29 ?_
    refine G_ 200 hE ?_
    first | refine rz ?_ | refine ZD_ ?_
    refine A_ ?_
    repeat' (first | refine A1_ ?_ | refine C_ hE (fun hc => ?_) (fun hc => ?_) <;> (try (exfalso; omega)))
    generalize md k = Q at *
    first | refine O_ ?_ | refine OD_ hm ?_
    refine G_ 200 hE ?_
    refine rc_ hE hP ((oPad_fc Q 54 h32).any) Tryd.func78 ?_
    refine rg_w (sgb_ 15 15) ?_
    refine G_ 3 hE ?_
    rw [rob_range, rob_cons, Nat.add_comm 1 ps.length]
    refine rc_ hE hP (oOfC_fc (padK Q 54) ps hn (by omega)) Tryd.func29 ?_
    refine G_ 200 hE ?_
    first | refine rz ?_ | refine ZD_ ?_
    refine A_ ?_
    first | refine O_ ?_ | refine OD_ hm ?_
    refine G_ 200 hE ?_
    refine rc_ hE hP ((oPad_fc Q 92 h32).any) Tryd.func78 ?_
    refine G_ 2 hE ?_
    refine rc_ hE hP (oOf2_fc (padK Q 92) (md (padK Q 54 ++ ps.flatten)) (by rw [md_len]; omega)) Tryd.func29 ?_
    refine G_ 200 hE ?_
    first | refine rz ?_ | refine ZD_ ?_
    refine A_ ?_
    exact retc_
  · have hq := hmM_def k k ps.flatten (kfitM_small hk64).symm
    have h32 : k.length ≤ 64 := by omega
    have hp1 := padK_len 54 h32
    have hp2 := padK_len 92 h32
    rw [hq]
    clear hq
    repeat' (first | refine A1_ ?_ | refine C_ hE (fun hc => ?_) (fun hc => ?_) <;> (try (exfalso; omega)))
    first | refine O_ ?_ | refine OD_ hm ?_
    refine G_ 200 hE ?_
    refine rc_ hE hP ((oPad_fc k 54 h32).any) Tryd.func78 ?_
    refine rg_w (sgb_ 15 15) ?_
    refine G_ 3 hE ?_
    rw [rob_range, rob_cons, Nat.add_comm 1 ps.length]
    refine rc_ hE hP (oOfC_fc (padK k 54) ps hn (by omega)) Tryd.func29 ?_
    refine G_ 200 hE ?_
    first | refine rz ?_ | refine ZD_ ?_
    refine A_ ?_
    first | refine O_ ?_ | refine OD_ hm ?_
    refine G_ 200 hE ?_
    refine rc_ hE hP ((oPad_fc k 92 h32).any) Tryd.func78 ?_
    refine G_ 2 hE ?_
    refine rc_ hE hP (oOf2_fc (padK k 92) (md (padK k 54 ++ ps.flatten)) (by rw [md_len]; omega)) Tryd.func29 ?_
    refine G_ 200 hE ?_
    first | refine rz ?_ | refine ZD_ ?_
    refine A_ ?_
    exact retc_

theorem roMac_fc (k m : List UInt8) (hk : k.length ≤ 10000000) (hb : m.length ≤ 10000000000) : FC Tryd.prog GE 40 [.str k, .str m] (.str (hmM k m)) none := by
  refine fi_ 44 [4] ti_eq gpE Tryd.func40 (fun C hE hm hP hrc hrn => ?_)
  by_cases hk64 : 64 < k.length
  · have hq := hmM_def k (md k) m (kfitM_big hk64).symm
    have hs := md_len k
    have h32 : (md k).length ≤ 64 := by omega
    rw [hq]
    clear hq
    repeat' (first | refine A1_ ?_ | refine C_ hE (fun hc => ?_) (fun hc => ?_) <;> (try (exfalso; omega)))
    first | refine O_ ?_ | refine OD_ hm ?_
    refine G_ 200 hE ?_
    refine rc_ hE hP (rMd_fc k (by omega)) Tryd.func31 ?_
    refine G_ 200 hE ?_
    first | refine rz ?_ | refine ZD_ ?_
    refine A_ ?_
    generalize md k = Q at hs h32 ⊢
    refine VC.weak ?_ (kniln 5 29 1 (c := .bytes []) rfl rfl rfl)
    refine VC.weak ?_ (kniln 6 34 1 (c := .bytes []) rfl rfl rfl)
    refine vl (fun i : Nat => ⟨[(0, .str Q), (1, .str m), (5, .sl 29 (1 + i) 0 ((padK Q 54).take i).length), (6, .sl 34 (1 + i) 0 ((padK Q 92).take i).length), (7, .int .i64 i)], [(29, ⟨⟨1 + i, 1, ((padK Q 54).take i).length⟩, some (.bytes ((padK Q 54).take i))⟩), (34, ⟨⟨1 + i, 1, ((padK Q 92).take i).length⟩, some (.bytes ((padK Q 92).take i))⟩)], []⟩) (fun i => i ≤ 64) (fun i => 64 - i) 0 ?_ (Nat.zero_le _) (fun i hi => ?_)
    · exact wk_ hrc
    · have l1 := padK_tl Q 54 i h32 hi
      have l2 := padK_tl Q 92 i h32 hi
      obtain ⟨E1, hE1⟩ : ∃ E, E = (padK Q 54).take i := ⟨_, rfl⟩
      obtain ⟨E2, hE2⟩ : ∃ E, E = (padK Q 92).take i := ⟨_, rfl⟩
      rw [← hE1] at l1 ⊢
      rw [← hE2] at l2 ⊢
      repeat' (first | refine A1_ ?_ | refine C_ hE (fun hc => ?_) (fun hc => ?_) <;> (try (exfalso; omega)))
      · refine lq_n (i + 1) ?_ (by omega) (by omega)
        rw [padK_get Q 54 i h32 (by omega), padK_get Q 92 i h32 (by omega), if_pos (show i < Q.length by omega), ← hE1, ← hE2, List.length_append, List.length_append]
        exact wk_ hrc
      · refine lq_n (i + 1) ?_ (by omega) (by omega)
        rw [padK_get Q 54 i h32 (by omega), padK_get Q 92 i h32 (by omega), if_neg (show ¬i < Q.length by omega), ← hE1, ← hE2, List.length_append, List.length_append]
        exact wk_ hrc
      · obtain rfl : i = 64 := by omega
        have p1 : (padK Q 54).take 64 = padK Q 54 := List.take_of_length_le (by rw [padK_len 54 h32]; decide)
        have p2 : (padK Q 92).take 64 = padK Q 92 := List.take_of_length_le (by rw [padK_len 92 h32]; decide)
        rw [p1] at hE1
        rw [p2] at hE2
        rw [← hE1, ← hE2]
        clear hE1 hE2 p1 p2
        first | refine O_ ?_ | refine OD_ hm ?_
        refine G_ 200 hE ?_
        refine rc_ hE hP (rMd_fc (E1 ++ m) (by rw [List.length_append]; omega)) Tryd.func31 ?_
        refine G_ 1 hE ?_
        refine rc_ hE hP (rMd_fc (E2 ++ md (E1 ++ m)) (by rw [List.length_append, md_len]; omega)) Tryd.func31 ?_
        refine G_ 200 hE ?_
        first | refine rz ?_ | refine ZD_ ?_
        refine A_ ?_
        exact ret_
  · have hq := hmM_def k k m (kfitM_small hk64).symm
    have h32 : k.length ≤ 64 := by omega
    rw [hq]
    clear hq
    repeat' (first | refine A1_ ?_ | refine C_ hE (fun hc => ?_) (fun hc => ?_) <;> (try (exfalso; omega)))
    refine VC.weak ?_ (kniln 5 29 1 (c := .bytes []) rfl rfl rfl)
    refine VC.weak ?_ (kniln 6 34 1 (c := .bytes []) rfl rfl rfl)
    refine vl (fun i : Nat => ⟨[(0, .str k), (1, .str m), (5, .sl 29 (1 + i) 0 ((padK k 54).take i).length), (6, .sl 34 (1 + i) 0 ((padK k 92).take i).length), (7, .int .i64 i)], [(29, ⟨⟨1 + i, 1, ((padK k 54).take i).length⟩, some (.bytes ((padK k 54).take i))⟩), (34, ⟨⟨1 + i, 1, ((padK k 92).take i).length⟩, some (.bytes ((padK k 92).take i))⟩)], []⟩) (fun i => i ≤ 64) (fun i => 64 - i) 0 ?_ (Nat.zero_le _) (fun i hi => ?_)
    · exact wk_ hrc
    · have l1 := padK_tl k 54 i h32 hi
      have l2 := padK_tl k 92 i h32 hi
      obtain ⟨E1, hE1⟩ : ∃ E, E = (padK k 54).take i := ⟨_, rfl⟩
      obtain ⟨E2, hE2⟩ : ∃ E, E = (padK k 92).take i := ⟨_, rfl⟩
      rw [← hE1] at l1 ⊢
      rw [← hE2] at l2 ⊢
      repeat' (first | refine A1_ ?_ | refine C_ hE (fun hc => ?_) (fun hc => ?_) <;> (try (exfalso; omega)))
      · refine lq_n (i + 1) ?_ (by omega) (by omega)
        rw [padK_get k 54 i h32 (by omega), padK_get k 92 i h32 (by omega), if_pos (show i < k.length by omega), ← hE1, ← hE2, List.length_append, List.length_append]
        exact wk_ hrc
      · refine lq_n (i + 1) ?_ (by omega) (by omega)
        rw [padK_get k 54 i h32 (by omega), padK_get k 92 i h32 (by omega), if_neg (show ¬i < k.length by omega), ← hE1, ← hE2, List.length_append, List.length_append]
        exact wk_ hrc
      · obtain rfl : i = 64 := by omega
        have p1 : (padK k 54).take 64 = padK k 54 := List.take_of_length_le (by rw [padK_len 54 h32]; decide)
        have p2 : (padK k 92).take 64 = padK k 92 := List.take_of_length_le (by rw [padK_len 92 h32]; decide)
        rw [p1] at hE1
        rw [p2] at hE2
        rw [← hE1, ← hE2]
        clear hE1 hE2 p1 p2
        first | refine O_ ?_ | refine OD_ hm ?_
        refine G_ 200 hE ?_
        refine rc_ hE hP (rMd_fc (E1 ++ m) (by rw [List.length_append]; omega)) Tryd.func31 ?_
        refine G_ 1 hE ?_
        refine rc_ hE hP (rMd_fc (E2 ++ md (E1 ++ m)) (by rw [List.length_append, md_len]; omega)) Tryd.func31 ?_
        refine G_ 200 hE ?_
        first | refine rz ?_ | refine ZD_ ?_
        refine A_ ?_
        exact ret_

end Go.Proofs.YtkokcibnkcmcjaaDoor
