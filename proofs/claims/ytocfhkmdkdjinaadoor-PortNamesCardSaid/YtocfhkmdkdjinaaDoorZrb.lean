/- What the claim leans on, text Zrb: Ra2, Ra3. No condition beyond what each lemma states. -/
import Derived.Test.YtocfhkmdkdjinaaDoorZd
import Derived.Test.YtocfhkmdkdjinaaDoorZt
import Derived.Test.YtocfhkmdkdjinaaDoorZra
import Derived.Test.YtocfhkmdkdjinaaDoorZh

/- radius: isMark, the search for one; slices.Clip; marked, Seal. Printed by wp.py. -/
namespace Go.Proofs.YtocfhkmdkdjinaaDoor
open Go Go.RowKit
set_option linter.unusedVariables false
set_option linter.unusedSimpArgs false
set_option maxRecDepth 100000
set_option maxHeartbeats 4000000
attribute [local irreducible] inR VC RG VCn sq inS lq nq jq Wk
/-- Where the first Mark is, counted from k; -1: there is none. -/
def idxF : List (Int × List UInt8) → Nat → Int
  | [], _ => -1
  | a :: L, k => if a.1 = 80 then (k : Int) else idxF L (k + 1)
def idxM (L : List (Int × List UInt8)) : Int := idxF L 0
theorem idxF_at (L : List (Int × List UInt8)) {k : Nat} (h : k < L.length) : idxF (L.drop k) k = if (L.getD k (0, [])).1 = 80 then (k : Int) else idxF (L.drop (k + 1)) (k + 1) := by
  rw [getD_at L h, List.drop_eq_getElem_cons h]
  rfl
theorem idxF_end (L : List (Int × List UInt8)) (k : Nat) (h : L.length ≤ k) : idxF (L.drop k) k = -1 := by
  rw [List.drop_of_length_le h]
  rfl
/-- Sixteen noughts; a sealed packet's bytes. -/
def z16 : List UInt8 := List.replicate 16 0
def seL (c i : Int) (au : List UInt8) (L : List (Int × List UInt8)) (sec : List UInt8) : List (Int × List UInt8) := L ++ [(80, hmM sec (wrS c i au (L ++ [(80, z16)])))]
def seV (c i : Int) (au : List UInt8) (L : List (Int × List UInt8)) (sec : List UInt8) : List UInt8 × Int := if wrO c i (L ++ [(80, z16)]) = true then (wrS c i au (seL c i au L sec), 0) else ([], 2)
theorem atR_tk (L : List (Int × List UInt8)) : List.take (L.length * 2) (atR L) = atR L := by rw [← atR_len, List.take_length]
theorem atR_app1 (L : List (Int × List UInt8)) (d e : D) : (atR L ++ [d, e]).length = L.length * 2 + 2 := by rw [List.length_append, atR_len]; rfl
theorem z16_def : List.replicate 16 (0 : UInt8) = z16 := rfl
theorem z16_len : z16.length = 16 := rfl
theorem z16_d : List.take 16 (List.drop 0 (List.replicate 16 (0 : UInt8))) = z16 := rfl
theorem atR_z16 (L : List (Int × List UInt8)) : atR L ++ [.int .i64 80, .rob z16] = atR (L ++ [(80, z16)]) := atR_snoc L 80 z16
theorem seV_yes {c i : Int} {au sec : List UInt8} {L : List (Int × List UInt8)} (h : wrO c i (L ++ [(80, z16)]) = true) : seV c i au L sec = (wrS c i au (seL c i au L sec), 0) := by unfold seV; rw [if_pos h]
theorem seV_no {c i : Int} {au sec : List UInt8} {L : List (Int × List UInt8)} (h : wrO c i (L ++ [(80, z16)]) = false) : seV c i au L sec = ([], 2) := by unfold seV; rw [if_neg (by rw [h]; simp)]
theorem wrS_def2 (c i : Int) (au : List UInt8) (L : List (Int × List UInt8)) : wrS c i au L = b8 c :: b8 i :: b8 (((20 + (bodyA L).length : Nat) : Int) / 256) :: b8 ((20 + (bodyA L).length : Nat) : Int) :: (au ++ bodyA L) := rfl
theorem bodyA_snoc (L : List (Int × List UInt8)) (v : List UInt8) (hv : v.length = 16) : bodyA (L ++ [(80, v)]) = bodyA L ++ [80, 18] ++ v := by
  rw [bodyA_app, bodyA_one, List.append_assoc]
  unfold enA
  rw [hv]
  rfl
/-- The mark stands in the last sixteen bytes. -/
theorem se_cut (c i : Int) (au : List UInt8) (L : List (Int × List UInt8)) (v : List UInt8) (hv : v.length = 16) (n : Nat) (hn : (wrS c i au (L ++ [(80, z16)])).length = n + 16) : (wrS c i au (L ++ [(80, z16)])).take n ++ v = wrS c i au (L ++ [(80, v)]) := by
  have hn2 : n = au.length + (bodyA L).length + 6 := by
    rw [wrS_len, bodyA_snoc L z16 rfl, List.length_append, List.length_append, z16_len] at hn
    simp only [List.length_cons, List.length_nil] at hn
    omega
  rw [wrS_def2, bodyA_snoc L z16 rfl, wrS_def2, bodyA_snoc L v hv]
  simp only [List.length_append, hv, z16_len]
  have e : ∀ (A z : List UInt8) (a b d f : UInt8), a :: b :: d :: f :: (au ++ (A ++ [80, 18] ++ z)) = (a :: b :: d :: f :: (au ++ (A ++ [80, 18]))) ++ z := by intros; simp
  rw [e _ _ _ _ _ _, e _ _ _ _ _ _]
  have el : ∀ (A : List UInt8) (a b d f : UInt8), (a :: b :: d :: f :: (au ++ (A ++ [80, 18]))).length = au.length + A.length + 6 := by intros; simp; omega
  rw [List.take_append_of_le_length (by rw [el]; omega), List.take_of_length_le (by rw [el]; omega)]
attribute [local irreducible] bodyA wrS wrO idxF z16

namespace UisMark_fc
theorem U : type_of% (@drop_rep UInt8) ∧ type_of% (@drop_rep D) ∧ type_of% (@List.take_zero UInt8) ∧ type_of% (@List.take_zero D) ∧ type_of% @q16_take ∧ type_of% @q16_len ∧ type_of% @q16_fold ∧ type_of% @q16_map ∧ type_of% @decL ∧ type_of% @decI ∧ type_of% @atR_len ∧ type_of% @atR_sc ∧ type_of% @atR_tk ∧ type_of% @atR_app1 ∧ type_of% @hmM_len ∧ type_of% @hmM_take := ⟨(@drop_rep UInt8), (@drop_rep D), (@List.take_zero UInt8), (@List.take_zero D), @q16_take, @q16_len, @q16_fold, @q16_map, @decL, @decI, @atR_len, @atR_sc, @atR_tk, @atR_app1, @hmM_len, @hmM_take⟩
end UisMark_fc
open UisMark_fc
theorem isMark_fc (k : Int) (v : List UInt8) : FC Tryd.prog GE 72 [.agg [.int .i64 k, .rob v]] (.bool (decide (k = 80))) none := by
  refine fi_ 6 [2] ti_eq gpE Tryd.func72 (fun C hE hm hP hrc hrn => ?_)
  refine A_ ?_
  exact ret_

theorem indexF_fc (L : List (Int × List UInt8)) (hL : L.length ≤ 1000000) : FC Tryd.prog GE 104 [.rof 2 L.length (fR L), .fn 72] (.int .i64 (idxM L)) none := by
  refine fi_ 19 [4] ti_eq gpE Tryd.func104 (fun C hE hm hP hrc hrn => ?_)
  refine A_ ?_
  have hidx : idxM L = idxF (L.drop 0) 0 := by rw [List.drop_zero]; rfl
  refine vl (fun k : Nat => ⟨[(0, .rof 2 L.length (fR L)), (1, .fn 72), (7, .int .i64 L.length), (8, .int .i64 k)], [], []⟩) (fun k => k ≤ L.length ∧ idxM L = idxF (L.drop k) k) (fun k => L.length - k) 0 ?_ ⟨Nat.zero_le _, hidx⟩ ?_
  · exact wk_ hrc
  rintro k ⟨hk, hi⟩
  by_cases hkl : k < L.length
  · have hat := idxF_at L hkl
    obtain ⟨a, ha⟩ : ∃ a, a = L.getD k (0, []) := ⟨_, rfl⟩
    have hf0 : fR L k 0 = .int .i64 a.1 := by rw [ha]; rfl
    have hf1 : fR L k 1 = .rob a.2 := by rw [ha]; rfl
    have hm2 : List.map (fun i => fR L k i) (List.range 2) = [.int .i64 a.1, .rob a.2] := by
      show [fR L k 0, fR L k 1] = _
      rw [hf0, hf1]
    rw [← ha] at hat
    refine A_ ?_
    refine C_ hE (fun hc2 => ?_) (fun hc2 => ?_) <;> (try (exfalso; omega))
    refine A_ ?_
    first | refine O_ ?_ | refine OD_ hm ?_
    refine G_ 5 hE ?_
    rw [hm2]
    refine rcv_ hE hP (isMark_fc a.1 a.2) Tryd.func72 ?_
    refine G_ 200 hE ?_
    first | refine rz ?_ | refine ZD_ ?_
    refine A_ ?_
    refine C_ hE (fun hc3 => ?_) (fun hc3 => ?_) <;> (try (exfalso; omega))
    · rw [hi, hat, if_pos hc3]
      refine A_ ?_
      exact ret_
    · rw [if_neg hc3] at hat
      refine A_ ?_
      refine lq_n (k + 1) ?_ ⟨by omega, hi.trans hat⟩ (by omega)
      exact wk_ hrc
  · have hend := idxF_end L k (by omega)
    rw [hi, hend]
    repeat' (first | refine A1_ ?_ | refine C_ hE (fun hc => ?_) (fun hc => ?_) <;> (try (exfalso; omega)))
    exact ret_

theorem containsF_fc (L : List (Int × List UInt8)) (hL : L.length ≤ 1000000) : FC Tryd.prog GE 71 [.rof 2 L.length (fR L), .fn 72] (.bool (decide (0 ≤ idxM L))) none := by
  refine fi_ 9 [4] ti_eq gpE Tryd.func71 (fun C hE hm hP hrc hrn => ?_)
  refine A_ ?_
  first | refine O_ ?_ | refine OD_ hm ?_
  refine G_ 200 hE ?_
  refine rc_ hE hP (indexF_fc L hL) Tryd.func104 ?_
  refine G_ 200 hE ?_
  first | refine rz ?_ | refine ZD_ ?_
  refine A_ ?_
  exact ret_

theorem at_last2 (A : List D) (n : Nat) (h : A.length = n * 2) (a b : D) : (A ++ [a, b])[n * 2 + 1]? = some b := by
  rw [List.getElem?_append_right (by omega), show n * 2 + 1 - A.length = 1 by omega]
  rfl
theorem at_set2 (A : List D) (n : Nat) (h : A.length = n * 2) (a b c : D) : (A ++ [a, b]).set (n * 2 + 1) c = A ++ [a, c] := by
  rw [List.set_append_right _ _ (by omega), show n * 2 + 1 - A.length = 1 by omega]
  rfl
theorem atRf (L : List (Int × List UInt8)) : (atR L).map frz = atR L := by
  unfold atR
  induction L with
  | nil => rfl
  | cons a L ih => rw [List.flatMap_cons, List.map_append, ih]; rfl
theorem atRx_f (L : List (Int × List UInt8)) (k : Int) (v : List UInt8) : (atR L ++ [D.int .i64 k, D.ownb v]).map frz = atR (L ++ [(k, v)]) := by rw [List.map_append, atRf, ← atR_snoc]; rfl
theorem atRx_fr (L : List (Int × List UInt8)) (k : Int) (v : List UInt8) : (atR L ++ [D.int .i64 k, D.ownb v]).all D.fr0 = true := by rw [List.all_append, atR_fr]; rfl
theorem clip_fc (L : List (Int × List UInt8)) : FC Tryd.prog GE 105 [.owns 2 L.length (atR L)] (.owns 2 L.length (atR L)) none := by
  refine fi_ 9 [2] ti_eq gpE Tryd.func105 (fun C hE hm hP hrc hrn => ?_) (had := (by exact adl2_))
  refine A_ ?_
  first | refine O_ ?_ | refine OD_ hm ?_
  refine G_ 5 hE ?_
  refine CL_ hE ?_
  refine G_ 200 hE ?_
  first | refine rz ?_ | refine ZD_ ?_
  refine A_ ?_
  exact ret_ (h := by exact ma3_)

theorem marked_fc (c i : Int) (au : List UInt8) (L : List (Int × List UInt8)) (sec : List UInt8) (hL : L.length ≤ 1000000) (hs : sec.length ≤ 100000) : FC Tryd.prog GO 73 [.agg [.int .i64 c, .int .i64 i, .u8 (gb au 0), .u8 (gb au 1), .u8 (gb au 2), .u8 (gb au 3), .u8 (gb au 4), .u8 (gb au 5), .u8 (gb au 6), .u8 (gb au 7), .u8 (gb au 8), .u8 (gb au 9), .u8 (gb au 10), .u8 (gb au 11), .u8 (gb au 12), .u8 (gb au 13), .u8 (gb au 14), .u8 (gb au 15), .owns 2 L.length (atR L)], .rob sec] (.tup [.ownb (seV c i (q16 au) L sec).1, .int .i64 (seV c i (q16 au) L sec).2]) none := by
  refine fi_ 37 [4, 5] ti_eq gpO Tryd.func73 (fun C hE hm hP hrc hrn => ?_) (had := (by exact adl2_))
  refine vs ?_
  refine R_ hE ?_
  refine sq_n ?_
  refine vs ?_
  first | refine O_ ?_ | refine OD_ hm ?_
  refine G_ 2 hE ?_
  refine rco_ hE hP ((clip_fc L).any) Tryd.func105 ?_
  refine G_ 3 hE ?_
  refine G_ 1 hE ?_
  refine G_ 200 hE ?_
  first | refine rz ?_ | refine ZD_ ?_
  refine sq_n ?_
  refine VC.weak ?_ (kclose 11 (L.length * 2 + 1) 12 (by exact rfl) (by exact at_last2 _ _ (atR_len L) _ _) (by exact rfl) (by exact rfl) (by exact rfl) (by exact rfl) (by exact at_set2 _ _ (atR_len L) _ _ _))
  refine VC.weak ?_ (kfreeze 11 (by exact rfl) (by exact atRx_fr L 80 _) (by exact atRx_f L 80 _))
  rw [z16_d]
  obtain ⟨M, hM⟩ : ∃ M, M = L ++ [(80, z16)] := ⟨_, rfl⟩
  have hMl : M.length = L.length + 1 := by rw [hM]; simp
  have wr := write_fc c i au M
  rw [← hM, ← hMl]
  refine vs ?_
  first | refine O_ ?_ | refine OD_ hm ?_
  refine G_ 1 hE ?_
  refine rc_ hE hP (wr.any) Tryd.func31 ?_ (hm := by exact ma2_) (hnr := by exact nrt2_) (had := by exact adt2_)
  rcases hw : wrO c i M
  · have hsv := seV_no (au := q16 au) (sec := sec) (by rw [← hM]; exact hw)
    rw [wrV_no hw, hsv]
    refine G_ 200 hE ?_
    first | refine rz ?_ | refine ZD_ ?_
    repeat' (first | refine A1_ ?_ | refine C_ hE (fun hc => ?_) (fun hc => ?_) <;> (try (exfalso; omega)))
    exact ret_ (h := by exact ma3_)
  · have hsv := seV_yes (au := q16 au) (sec := sec) (by rw [← hM]; exact hw)
    rw [wrV_yes hw, hsv]
    obtain ⟨-, -, -, -, hbl⟩ := (wrO_iff _ _ _).1 hw
    obtain ⟨P, hP1⟩ : ∃ P, P = wrS c i (q16 au) M := ⟨_, rfl⟩
    have hPl : P.length = 20 + (bodyA M).length := by rw [hP1, wrS_len, q16_len]; omega
    have mac := oMac_fc sec [P] (by omega) (by simp) (by simp; omega)
    rw [← hP1]
    refine G_ 200 hE ?_
    first | refine rz ?_ | refine ZD_ ?_
    repeat' (first | refine A1_ ?_ | refine C_ hE (fun hc => ?_) (fun hc => ?_) <;> (try (exfalso; omega)))
    first | refine O_ ?_ | refine OD_ hm ?_
    refine G_ 3 hE ?_
    refine rc_ hE hP (mac) Tryd.func106 ?_
    refine G_ 200 hE ?_
    first | refine rz ?_ | refine ZD_ ?_
    repeat' (first | refine A1_ ?_ | refine C_ hE (fun hc => ?_) (fun hc => ?_) <;> (try (exfalso; omega)))
    obtain ⟨Q, hQ⟩ : ∃ Q, Q = wrS c i (q16 au) (seL c i (q16 au) L sec) := ⟨_, rfl⟩
    have hfl : [P].flatten = P := by simp
    have hml := hmM_len sec P
    have hn : ((P.length : Int) - 16).toNat = P.length - 16 := by omega
    have hQ2 : List.take (P.length - 16) P ++ hmM sec P = Q := by
      rw [hQ, seL, ← hM, ← hP1, hP1, hM]
      refine se_cut c i (q16 au) L _ (hmM_len _ _) _ ?_
      rw [← hM, ← hP1]
      omega
    have hQl : Q.length = P.length := by rw [← hQ2, List.length_append, hml, List.length_take]; omega
    rw [hfl, hn, ← hQ, List.take_of_length_le (l := hmM sec P) (by omega), List.drop_of_length_le (by omega), List.append_nil, hQ2, ← hQl]
    exact ret_ (h := by exact ma3_)
end Go.Proofs.YtocfhkmdkdjinaaDoor

/- radius: Seal, Reply. Printed by wp.py. -/
namespace Go.Proofs.YtocfhkmdkdjinaaDoor
open Go Go.RowKit
set_option linter.unusedVariables false
set_option linter.unusedSimpArgs false
set_option maxRecDepth 100000
set_option maxHeartbeats 4000000
attribute [local irreducible] inR VC RG VCn sq inS lq nq jq Wk
/-- A sealed packet; an answer. -/
def slV (c i : Int) (au : List UInt8) (L : List (Int × List UInt8)) (sec : List UInt8) : List UInt8 × Int := if c = 1 ∧ idxM L < 0 then seV c i au L sec else ([], 1)
theorem slV_yes {c i : Int} {au sec : List UInt8} {L : List (Int × List UInt8)} (h : c = 1) (h2 : ¬ 0 ≤ idxM L) : slV c i au L sec = seV c i au L sec := by unfold slV; rw [if_pos ⟨h, by omega⟩]
theorem slV_c {c i : Int} {au sec : List UInt8} {L : List (Int × List UInt8)} (h : ¬ c = 1) : slV c i au L sec = ([], 1) := by unfold slV; rw [if_neg (fun e => h e.1)]
theorem slV_m {c i : Int} {au sec : List UInt8} {L : List (Int × List UInt8)} (h : 0 ≤ idxM L) : slV c i au L sec = ([], 1) := by unfold slV; rw [if_neg (fun e => by omega)]
def rpV (c i : Int) (ak : List UInt8) (L : List (Int × List UInt8)) (sec : List UInt8) : List UInt8 × Int :=
  if c = 1 ∨ 0 ≤ idxM L then ([], 1) else if (seV c i ak L sec).2 = 0 then ((seV c i ak L sec).1.take 4 ++ md ((seV c i ak L sec).1 ++ sec) ++ (seV c i ak L sec).1.drop 20, 0) else ([], (seV c i ak L sec).2)
theorem rpV_c {c i : Int} {ak sec : List UInt8} {L : List (Int × List UInt8)} (h : c = 1) : rpV c i ak L sec = ([], 1) := by unfold rpV; rw [if_pos (.inl h)]
theorem rpV_m {c i : Int} {ak sec : List UInt8} {L : List (Int × List UInt8)} (h : 0 ≤ idxM L) : rpV c i ak L sec = ([], 1) := by unfold rpV; rw [if_pos (.inr h)]
theorem rpV_e {c i : Int} {ak sec : List UInt8} {L : List (Int × List UInt8)} (h : ¬ c = 1) (h2 : ¬ 0 ≤ idxM L) (h3 : ¬ (seV c i ak L sec).2 = 0) : rpV c i ak L sec = ([], (seV c i ak L sec).2) := by unfold rpV; rw [if_neg (by simp [h, h2] <;> omega), if_neg h3]
theorem rpV_y {c i : Int} {ak sec : List UInt8} {L : List (Int × List UInt8)} (h : ¬ c = 1) (h2 : ¬ 0 ≤ idxM L) (h3 : (seV c i ak L sec).2 = 0) : rpV c i ak L sec = ((seV c i ak L sec).1.take 4 ++ md ((seV c i ak L sec).1 ++ sec) ++ (seV c i ak L sec).1.drop 20, 0) := by unfold rpV; rw [if_neg (by simp [h, h2] <;> omega), if_pos h3]
theorem seV_le (c i : Int) (au sec : List UInt8) (L : List (Int × List UInt8)) (hau : au.length = 16) : (seV c i au L sec).1.length ≤ 4096 ∧ ((seV c i au L sec).2 = 0 → 20 ≤ (seV c i au L sec).1.length) ∧ ((seV c i au L sec).2 = 0 ∨ (seV c i au L sec).2 = 2) := by
  rcases h : wrO c i (L ++ [(80, z16)])
  · rw [seV_no h]
    exact ⟨by simp, fun e => by simp at e, .inr rfl⟩
  · rw [seV_yes h]
    obtain ⟨-, -, -, -, hb⟩ := (wrO_iff _ _ _).1 h
    have e : (bodyA (seL c i au L sec)).length = (bodyA (L ++ [(80, z16)])).length := by
      unfold seL
      rw [bodyA_snoc L _ (hmM_len _ _), bodyA_snoc L z16 rfl]
      simp only [List.length_append, hmM_len, z16_len]
    simp only [wrS_len, e, hau]
    exact ⟨by omega, fun _ => by omega, .inl trivial⟩
attribute [local irreducible] bodyA wrS wrO idxF idxM z16 seV slV rpV md

namespace Useal_fc
theorem U : type_of% (@drop_rep UInt8) ∧ type_of% (@drop_rep D) ∧ type_of% (@List.take_zero UInt8) ∧ type_of% (@List.take_zero D) ∧ type_of% @q16_take ∧ type_of% @q16_len ∧ type_of% @q16_fold ∧ type_of% @q16_map ∧ type_of% @decL ∧ type_of% @decI ∧ type_of% @atR_len ∧ type_of% @atR_sc ∧ type_of% @atR_tk ∧ type_of% @atR_app1 ∧ type_of% @hmM_len ∧ type_of% @hmM_take ∧ type_of% @md_len ∧ type_of% @md_take := ⟨(@drop_rep UInt8), (@drop_rep D), (@List.take_zero UInt8), (@List.take_zero D), @q16_take, @q16_len, @q16_fold, @q16_map, @decL, @decI, @atR_len, @atR_sc, @atR_tk, @atR_app1, @hmM_len, @hmM_take, @md_len, @md_take⟩
end Useal_fc
open Useal_fc
theorem seal_fc (c i : Int) (au : List UInt8) (L : List (Int × List UInt8)) (sec : List UInt8) (hL : L.length ≤ 1000000) (hs : sec.length ≤ 100000) : FC Tryd.prog GO 38 [.agg [.int .i64 c, .int .i64 i, .u8 (gb au 0), .u8 (gb au 1), .u8 (gb au 2), .u8 (gb au 3), .u8 (gb au 4), .u8 (gb au 5), .u8 (gb au 6), .u8 (gb au 7), .u8 (gb au 8), .u8 (gb au 9), .u8 (gb au 10), .u8 (gb au 11), .u8 (gb au 12), .u8 (gb au 13), .u8 (gb au 14), .u8 (gb au 15), .owns 2 L.length (atR L)], .rob sec] (.tup [.ownb (slV c i (q16 au) L sec).1, .int .i64 (slV c i (q16 au) L sec).2]) none := by
  refine fi_ 19 [4, 5] ti_eq gpO Tryd.func38 (fun C hE hm hP hrc hrn => ?_) (had := (by exact adl2_))
  refine vs ?_
  refine R_ hE ?_
  refine sq_n ?_
  refine vs ?_
  refine vs ?_
  have hcf := containsF_fc L hL
  by_cases hc : c = 1
  · first | refine O_ ?_ | refine OD_ hm ?_
    refine G_ 3 hE ?_
    rw [decide_eq_true hc, Bool.not_true]
    refine G_ 1 hE ?_
    refine GT_ hE (rfl) ?_
    refine GT_ hE (rfl) ?_
    refine rct_ hE hP (hcf.any) Tryd.func71 (rfl) ?_ (hm := by exact ma2_) (hnr := by exact nrt2_) (had := by exact adt2_)
    by_cases hmk : 0 ≤ idxM L
    · rw [decide_eq_true hmk, slV_m hmk]
      refine G_ 200 hE ?_
      first | refine rz ?_ | refine ZD_ ?_
      repeat' (first | refine A1_ ?_ | refine C_ hE (fun hc => ?_) (fun hc => ?_) <;> (try (exfalso; omega)))
      exact ret_ (h := by exact ma3_)
    · rw [decide_eq_false hmk, slV_yes hc hmk]
      refine G_ 200 hE ?_
      first | refine rz ?_ | refine ZD_ ?_
      refine A_ ?_
      first | refine O_ ?_ | refine OD_ hm ?_
      refine G_ 2 hE ?_
      refine rco_ hE hP (marked_fc c i au L sec hL hs) Tryd.func73 ?_
      refine G_ 200 hE ?_
      first | refine rz ?_ | refine ZD_ ?_
      refine A_ ?_
      exact ret_ (h := by exact ma3_)
  · rw [slV_c hc]
    first | refine O_ ?_ | refine OD_ hm ?_
    refine G_ 3 hE ?_
    rw [decide_eq_false hc, Bool.not_false]
    refine G_ 1 hE ?_
    refine GF_ hE (rfl) ?_
    refine GF_ hE (rfl) ?_
    refine GI_ (.bool true) hE (rfl) ?_
    refine G_ 200 hE ?_
    first | refine rz ?_ | refine ZD_ ?_
    refine A_ ?_
    exact ret_ (h := by exact ma3_)
theorem reply_fc (c i : Int) (au ak : List UInt8) (L : List (Int × List UInt8)) (sec : List UInt8) (hL : L.length ≤ 1000000) (hs : sec.length ≤ 100000) : FC Tryd.prog GO 20 [.agg [.int .i64 c, .int .i64 i, .u8 (gb au 0), .u8 (gb au 1), .u8 (gb au 2), .u8 (gb au 3), .u8 (gb au 4), .u8 (gb au 5), .u8 (gb au 6), .u8 (gb au 7), .u8 (gb au 8), .u8 (gb au 9), .u8 (gb au 10), .u8 (gb au 11), .u8 (gb au 12), .u8 (gb au 13), .u8 (gb au 14), .u8 (gb au 15), .owns 2 L.length (atR L)], (.aggb (q16 ak)), .rob sec] (.tup [.ownb (rpV c i (q16 ak) L sec).1, .int .i64 (rpV c i (q16 ak) L sec).2]) none := by
  refine fi_ 39 [6, 7] ti_eq gpO Tryd.func20 (fun C hE hm hP hrc hrn => ?_) (had := (by exact adl2_))
  refine vs ?_
  refine R_ hE ?_
  refine sq_n ?_
  refine vs ?_
  refine vs ?_
  have hcf := containsF_fc L hL
  by_cases hc : c = 1
  · rw [rpV_c hc]
    first | refine O_ ?_ | refine OD_ hm ?_
    refine G_ 3 hE ?_
    rw [decide_eq_true hc]
    refine G_ 1 hE ?_
    refine GF_ hE (rfl) ?_
    refine GF_ hE (rfl) ?_
    refine GI_ (.bool true) hE (rfl) ?_
    refine G_ 200 hE ?_
    first | refine rz ?_ | refine ZD_ ?_
    refine A_ ?_
    exact ret_ (h := by exact ma3_)
  · first | refine O_ ?_ | refine OD_ hm ?_
    refine G_ 3 hE ?_
    rw [decide_eq_false hc]
    refine G_ 1 hE ?_
    refine GT_ hE (rfl) ?_
    refine GT_ hE (rfl) ?_
    refine rct_ hE hP (hcf.any) Tryd.func71 (rfl) ?_ (hm := by exact ma2_) (hnr := by exact nrt2_) (had := by exact adt2_)
    by_cases hmk : 0 ≤ idxM L
    · rw [decide_eq_true hmk, rpV_m hmk]
      refine G_ 200 hE ?_
      first | refine rz ?_ | refine ZD_ ?_
      repeat' (first | refine A1_ ?_ | refine C_ hE (fun hc => ?_) (fun hc => ?_) <;> (try (exfalso; omega)))
      exact ret_ (h := by exact ma3_)
    · rw [decide_eq_false hmk]
      refine G_ 200 hE ?_
      first | refine rz ?_ | refine ZD_ ?_
      refine sq_n ?_
      refine A_ ?_
      have hse := seV_le c i (q16 ak) sec L (q16_len ak)
      first | refine O_ ?_ | refine OD_ hm ?_
      refine G_ 2 hE ?_
      refine rco_ hE hP (marked_fc c i ak L sec hL hs) Tryd.func73 ?_
      obtain ⟨⟨B, e⟩, hBe⟩ : ∃ B, B = seV c i (q16 ak) L sec := ⟨_, rfl⟩
      rw [← hBe] at hse
      simp only at hse
      by_cases he0 : e = 0
      · have hrp := rpV_y hc hmk (by rw [← hBe]; exact he0)
        rw [← hBe] at hrp
        subst he0
        rw [hrp, ← hBe]
        obtain ⟨h1, h2, -⟩ := hse
        have h2 := h2 rfl
        refine G_ 200 hE ?_
        first | refine rz ?_ | refine ZD_ ?_
        repeat' (first | refine A1_ ?_ | refine C_ hE (fun hc => ?_) (fun hc => ?_) <;> (try (exfalso; omega)))
        first | refine O_ ?_ | refine OD_ hm ?_
        refine G_ 3 hE ?_
        refine rc_ hE hP (oOf2_fc B sec (by omega)) Tryd.func74 ?_
        refine G_ 200 hE ?_
        first | refine rz ?_ | refine ZD_ ?_
        repeat' (first | refine A1_ ?_ | refine C_ hE (fun hc => ?_) (fun hc => ?_) <;> (try (exfalso; omega)))
        have hml : (md (B ++ sec)).length = 16 := md_len _
        obtain ⟨Q, hQ⟩ : ∃ Q, Q = List.take 4 B ++ md (B ++ sec) ++ List.drop 20 B := ⟨_, rfl⟩
        have hQl : Q.length = B.length := by rw [hQ, List.length_append, List.length_append, hml, List.length_take, List.length_drop]; omega
        rw [List.take_of_length_le (l := md (B ++ sec)) (by omega), show 4 + min 16 (B.length - 4) = 20 by omega, ← hQ, ← hQl]
        exact ret_ (h := by exact ma3_)
      · have hrp := rpV_e hc hmk (by rw [← hBe]; exact he0)
        rw [← hBe] at hrp
        rw [hrp, ← hBe]
        refine G_ 200 hE ?_
        first | refine rz ?_ | refine ZD_ ?_
        repeat' (first | refine A1_ ?_ | refine C_ hE (fun hc => ?_) (fun hc => ?_) <;> (try (exfalso; omega)))
        exact ret_ (h := by exact ma3_)
end Go.Proofs.YtocfhkmdkdjinaaDoor
