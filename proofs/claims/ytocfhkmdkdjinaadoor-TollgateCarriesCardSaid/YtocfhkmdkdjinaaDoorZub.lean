/- What the claim leans on, text Zub: Pq1, Pq2, Pq3, Pq4, PqM, PqJ. No condition beyond what each lemma states. -/
import Derived.Test.YtocfhkmdkdjinaaDoorZd
import Derived.Test.YtocfhkmdkdjinaaDoorZt
import Derived.Test.YtocfhkmdkdjinaaDoorZqh

/- The functions of the piece seat, small ones. Printed by wp.py. -/
namespace Go.Proofs.YtocfhkmdkdjinaaDoor
open Go Go.RowKit
set_option linter.unusedVariables false
set_option linter.unusedSimpArgs false
set_option maxRecDepth 100000
set_option maxHeartbeats 4000000
attribute [local irreducible] inR VC RG VCn sq inS lq nq jq Wk

def orI (a b : Int) : Int := bits .or .i64 a b
def be4 (l : List UInt8) : Int := orI (orI (orI ((gb l 0).toNat * 16777216) ((gb l 1).toNat * 65536)) ((gb l 2).toNat * 256)) (gb l 3).toNat
/-- (*Joiner).first: the bytes behind the length, the length, the code. -/
def firstN (f : UInt8) (l : List UInt8) (n : Int) : Int := if f &&& 128 = 0 then (if f &&& 64 = 0 then l.length else n) else be4 l
def firstC (f : UInt8) (l : List UInt8) (n : Int) : Int := if f &&& 128 = 0 ∧ f &&& 64 ≠ 0 then 2 else if 32768 < firstN f l n then 4 else 0
def firstR (f : UInt8) (l : List UInt8) (n : Int) : List UInt8 := if firstC f l n = 0 then (if f &&& 128 = 0 then l else l.drop 4) else []

open Uno
theorem first_fc (m : Bool) (n : Int) (got l : List UInt8) (f : UInt8) (hl : l.length ≤ 140737488355328) (h5 : f &&& 128 ≠ 0 → 4 ≤ l.length) : FC Tryd.prog GE 118 [.ownp [.bool m, .int .i64 n, .ownb got], .u8 f, .rob l] (.tup [.rob (firstR f l n), .int .i64 (firstC f l n)]) (some [.bool m, .int .i64 (firstN f l n), .ownb got]) := by
  refine fo_ 52 [6, 7] ti_eq gpE Tryd.func118 (fun C hE hm hP hr9 hrn => ?_)
  have hb_l0 := UInt8.toNat_lt (gb l 0); have hb_l1 := UInt8.toNat_lt (gb l 1); have hb_l2 := UInt8.toNat_lt (gb l 2); have hb_l3 := UInt8.toNat_lt (gb l 3)
  by_cases h5' : f &&& 128 = 0
  · repeat' (first | refine A1_ ?_ | refine C_ hE (fun hc => ?_) (fun hc => ?_) <;> (try (exfalso; omega)))
    all_goals
      exact retr_ (h := by (first | exact Mat.tnil | apply mat1 rfl | apply mat2 rfl rfl | apply mat3 rfl rfl rfl) <;> (repeat' (first | exact .tnil | exact mat_eq rfl rfl | apply mat_i | apply mat_bl | apply mat_u8 | apply mat_u32 | apply mat_st | apply mat_ab | apply mat_rbe | apply mat_nrb | apply mat_nob | exact mat_nos rfl rfl | exact mat_rf0 rfl | exact mat_trob | (apply mat_rf rfl rfl rfl) | refine mat_slf (e := 1) rfl rfl rfl rfl ?_ ?_ ?_ (by first | exact fr0_rob _ | exact fr0_str _ | exact fr0_str _) | (apply mat_sls rfl rfl rfl rfl rfl rfl) | exact mat_pf rfl rfl rfl rfl rfl | (apply mat_s0 rfl rfl rfl; (· first | rfl | (simp <;> fail) | (simp; omega) | omega)) | (apply mat_r0 rfl rfl rfl; (· first | rfl | (simp <;> fail) | (simp; omega) | omega)) | apply mat_sl rfl rfl rfl | apply mat_rb rfl rfl rfl | apply mat_p rfl rfl rfl rfl | apply mc)) <;> (first | rfl | assumption | (simp only [Z, U, Int.cast_ofNat_Int, UInt8.reduceToNat, UInt32.reduceToNat, Nat.reduceAdd, Nat.reduceMul, Nat.reduceSub, Nat.reduceLeDiff, Int.reduceToNat, Int.reducePow, Nat.reducePow] <;> fail) | (simp [firstC, firstN, firstR, be4, orI, *] <;> fail) | (simp_all [firstC, firstN, firstR, be4, orI] <;> fail) | (simp <;> fail) | omega | (simp [List.take_of_length_le] <;> fail))) (hr := by first | (apply mat_pf rfl rfl rfl rfl; (first | rfl | assumption | (simp only [Z, U, Int.cast_ofNat_Int, UInt8.reduceToNat, UInt32.reduceToNat, Nat.reduceAdd, Nat.reduceMul, Nat.reduceSub, Nat.reduceLeDiff, Int.reduceToNat, Int.reducePow, Nat.reducePow] <;> fail) | (simp [firstC, firstN, firstR, be4, orI, *] <;> fail) | (simp_all [firstC, firstN, firstR, be4, orI] <;> fail) | (simp <;> fail) | (simp [List.take_of_length_le] <;> fail))) | ((repeat' (first | exact .tnil | exact mat_eq rfl rfl | apply mat_i | apply mat_bl | apply mat_u8 | apply mat_u32 | apply mat_st | apply mat_ab | apply mat_rbe | apply mat_nrb | apply mat_nob | exact mat_nos rfl rfl | exact mat_rf0 rfl | exact mat_trob | (apply mat_rf rfl rfl rfl) | refine mat_slf (e := 1) rfl rfl rfl rfl ?_ ?_ ?_ (by first | exact fr0_rob _ | exact fr0_str _ | exact fr0_str _) | (apply mat_sls rfl rfl rfl rfl rfl rfl) | exact mat_pf rfl rfl rfl rfl rfl | (apply mat_s0 rfl rfl rfl; (· first | rfl | (simp <;> fail) | (simp; omega) | omega)) | (apply mat_r0 rfl rfl rfl; (· first | rfl | (simp <;> fail) | (simp; omega) | omega)) | apply mat_sl rfl rfl rfl | apply mat_rb rfl rfl rfl | apply mat_p rfl rfl rfl rfl | apply mc)) <;> (first | rfl | assumption | (simp only [Z, U, Int.cast_ofNat_Int, UInt8.reduceToNat, UInt32.reduceToNat, Nat.reduceAdd, Nat.reduceMul, Nat.reduceSub, Nat.reduceLeDiff, Int.reduceToNat, Int.reducePow, Nat.reducePow] <;> fail) | (simp [firstC, firstN, firstR, be4, orI, *] <;> fail) | (simp_all [firstC, firstN, firstR, be4, orI] <;> fail) | (simp <;> fail) | omega | (simp [List.take_of_length_le] <;> fail))))
  · have hl4 := h5 h5'
    repeat' (first | refine A1_ ?_ | refine C_ hE (fun hc => ?_) (fun hc => ?_) <;> (try (exfalso; omega)))
    all_goals
      exact retr_ (h := by (first | exact Mat.tnil | apply mat1 rfl | apply mat2 rfl rfl | apply mat3 rfl rfl rfl) <;> (repeat' (first | exact .tnil | exact mat_eq rfl rfl | apply mat_i | apply mat_bl | apply mat_u8 | apply mat_u32 | apply mat_st | apply mat_ab | apply mat_rbe | apply mat_nrb | apply mat_nob | exact mat_nos rfl rfl | exact mat_rf0 rfl | exact mat_trob | (apply mat_rf rfl rfl rfl) | refine mat_slf (e := 1) rfl rfl rfl rfl ?_ ?_ ?_ (by first | exact fr0_rob _ | exact fr0_str _ | exact fr0_str _) | (apply mat_sls rfl rfl rfl rfl rfl rfl) | exact mat_pf rfl rfl rfl rfl rfl | (apply mat_s0 rfl rfl rfl; (· first | rfl | (simp <;> fail) | (simp; omega) | omega)) | (apply mat_r0 rfl rfl rfl; (· first | rfl | (simp <;> fail) | (simp; omega) | omega)) | apply mat_sl rfl rfl rfl | apply mat_rb rfl rfl rfl | apply mat_p rfl rfl rfl rfl | apply mc)) <;> (first | rfl | assumption | (simp only [Z, U, Int.cast_ofNat_Int, UInt8.reduceToNat, UInt32.reduceToNat, Nat.reduceAdd, Nat.reduceMul, Nat.reduceSub, Nat.reduceLeDiff, Int.reduceToNat, Int.reducePow, Nat.reducePow] <;> fail) | (simp [firstC, firstN, firstR, be4, orI, *] <;> fail) | (simp_all [firstC, firstN, firstR, be4, orI] <;> fail) | (simp <;> fail) | omega | (simp [List.take_of_length_le] <;> fail))) (hr := by first | (apply mat_pf rfl rfl rfl rfl; (first | rfl | assumption | (simp only [Z, U, Int.cast_ofNat_Int, UInt8.reduceToNat, UInt32.reduceToNat, Nat.reduceAdd, Nat.reduceMul, Nat.reduceSub, Nat.reduceLeDiff, Int.reduceToNat, Int.reducePow, Nat.reducePow] <;> fail) | (simp [firstC, firstN, firstR, be4, orI, *] <;> fail) | (simp_all [firstC, firstN, firstR, be4, orI] <;> fail) | (simp <;> fail) | (simp [List.take_of_length_le] <;> fail))) | ((repeat' (first | exact .tnil | exact mat_eq rfl rfl | apply mat_i | apply mat_bl | apply mat_u8 | apply mat_u32 | apply mat_st | apply mat_ab | apply mat_rbe | apply mat_nrb | apply mat_nob | exact mat_nos rfl rfl | exact mat_rf0 rfl | exact mat_trob | (apply mat_rf rfl rfl rfl) | refine mat_slf (e := 1) rfl rfl rfl rfl ?_ ?_ ?_ (by first | exact fr0_rob _ | exact fr0_str _ | exact fr0_str _) | (apply mat_sls rfl rfl rfl rfl rfl rfl) | exact mat_pf rfl rfl rfl rfl rfl | (apply mat_s0 rfl rfl rfl; (· first | rfl | (simp <;> fail) | (simp; omega) | omega)) | (apply mat_r0 rfl rfl rfl; (· first | rfl | (simp <;> fail) | (simp; omega) | omega)) | apply mat_sl rfl rfl rfl | apply mat_rb rfl rfl rfl | apply mat_p rfl rfl rfl rfl | apply mc)) <;> (first | rfl | assumption | (simp only [Z, U, Int.cast_ofNat_Int, UInt8.reduceToNat, UInt32.reduceToNat, Nat.reduceAdd, Nat.reduceMul, Nat.reduceSub, Nat.reduceLeDiff, Int.reduceToNat, Int.reducePow, Nat.reducePow] <;> fail) | (simp [firstC, firstN, firstR, be4, orI, *] <;> fail) | (simp_all [firstC, firstN, firstR, be4, orI] <;> fail) | (simp <;> fail) | omega | (simp [List.take_of_length_le] <;> fail))))

theorem pjNew_fc  : FC Tryd.prog GE 63 [] (.ownp [.bool false, .int .i64 0, .ownb []]) none := by
  refine fi_ 3 [0] ti_eq gpE Tryd.func63 (fun C hE hm hP hrc hrn => ?_)
  repeat' (first | refine A1_ ?_ | refine C_ hE (fun hc => ?_) (fun hc => ?_) <;> (try (exfalso; omega)))
  exact ret_
theorem Waits_fc (m : Bool) (n : Int) (got : List UInt8) : FC Tryd.prog GE 67 [.ownp [.bool m, .int .i64 n, .ownb got]] (.int .i64 got.length) (some [.bool m, .int .i64 n, .ownb got]) := by
  refine fo_ 10 [2] ti_eq gpE Tryd.func67 (fun C hE hm hP hr9 hrn => ?_)
  refine wv_ (so_ 900 2 901 0) ?_
  repeat' (first | refine A1_ ?_ | refine C_ hE (fun hc => ?_) (fun hc => ?_) <;> (try (exfalso; omega)))
  exact retr_
end Go.Proofs.YtocfhkmdkdjinaaDoor

/- The functions of the piece seat: take, Take. Printed by wp.py. -/
namespace Go.Proofs.YtocfhkmdkdjinaaDoor
open Go Go.RowKit
set_option linter.unusedVariables false
set_option linter.unusedSimpArgs false
set_option maxRecDepth 100000
set_option maxHeartbeats 4000000
attribute [local irreducible] inR VC RG VCn sq inS lq nq jq Wk

/-- (*Joiner).take: done, code; begun, size, got. -/
def takeH (n1 : Int) (f : UInt8) (got r1 : List UInt8) : Bool × Int × Bool × Int × List UInt8 :=
  if (n1 < (got.length : Int) + (r1.length : Int) ∨ (f &&& 64 = 0 ∧ (got.length : Int) + (r1.length : Int) < n1)) ∨ (f &&& 64 ≠ 0 ∧ (r1.length : Int) = 0) then (false, 2, true, n1, got)
  else (decide (f &&& 64 = 0), 0, true, n1, got ++ r1)
def takeF (m : Bool) (n : Int) (got p : List UInt8) : Bool × Int × Bool × Int × List UInt8 :=
  if (p.length : Int) = 0 ∨ (gb p 0 &&& 128 ≠ 0 ∧ (p.length : Int) < 5) then (false, 3, m, n, got)
  else if gb p 0 &&& ~~~192 ≠ 0 ∨ (m = true ∧ gb p 0 &&& 128 ≠ 0) then (false, 2, m, n, got)
  else if m = true then takeH n (gb p 0) got (p.drop 1)
  else if firstC (gb p 0) (p.drop 1) n ≠ 0 then (false, firstC (gb p 0) (p.drop 1) n, m, firstN (gb p 0) (p.drop 1) n, got)
  else takeH (firstN (gb p 0) (p.drop 1) n) (gb p 0) got (firstR (gb p 0) (p.drop 1) n)

theorem firstR_len (f : UInt8) (l : List UInt8) (n : Int) : (firstR f l n).length ≤ l.length := by
  unfold firstR
  split
  · split <;> simp
  · simp

open Uno
theorem take_fc (m : Bool) (n : Int) (got p : List UInt8) (hl : got.length + p.length ≤ 140737488355328) : FC Tryd.prog GE 101 [.ownp [.bool m, .int .i64 n, .ownb got], .rob p] (.tup [.bool (takeF m n got p).1, .int .i64 (takeF m n got p).2.1]) (some [.bool (takeF m n got p).2.2.1, .int .i64 (takeF m n got p).2.2.2.1, .ownb (takeF m n got p).2.2.2.2]) := by
  refine fo_ 110 [4, 5] ti_eq gpE Tryd.func101 (fun C hE hm hP hr9 hrn => ?_)
  repeat' (first | refine A1_ ?_ | refine C_ hE (fun hc => ?_) (fun hc => ?_) <;> (try (exfalso; omega)))
  · rw [show takeF m n got p = (false, 3, m, n, got) by (simp only [takeF]; (repeat' split) <;> first | rfl | contradiction | omega | grind)]
    exact retr_
  · rw [show takeF m n got p = (false, 2, m, n, got) by (simp only [takeF]; (repeat' split) <;> first | rfl | contradiction | omega | grind)]
    exact retr_
  · first | refine O_ ?_ | refine OD_ hm ?_
    refine G_ 200 hE ?_
    refine rc_ hE hP (first_fc _ _ _ _ _ ?_ ?_) Tryd.func118 ?_
    · simp; omega
    · intro h; simp; simp_all; omega
    refine G_ 200 hE ?_
    first | refine rz ?_ | refine ZD_ ?_
    repeat' (first | refine A1_ ?_ | refine C_ hE (fun hc => ?_) (fun hc => ?_) <;> (try (exfalso; omega)))
    · rw [show takeF m n got p = (false, firstC (gb p 0) (p.drop 1) n, m, firstN (gb p 0) (p.drop 1) n, got) by (simp only [takeF]; (repeat' split) <;> first | rfl | contradiction | omega | grind)]
      exact retr_
    · have hr := firstR_len (gb p 0) (p.drop 1) n
      simp only [List.length_drop] at hr
      refine wv_ (so_ 900 2 901 0) ?_
      repeat' (first | refine A1_ ?_ | refine C_ hE (fun hc => ?_) (fun hc => ?_) <;> (try (exfalso; omega)))
      · rw [show takeF m n got p = (false, 2, true, firstN (gb p 0) (p.drop 1) n, got) by (simp only [takeF, takeH]; (repeat' split) <;> first | rfl | contradiction | omega | grind)]
        exact retr_
      · first | refine O_ ?_ | refine OD_ hm ?_
        refine G_ 200 hE ?_
        refine rc_ hE hP (clone_fc GE _ ?_) Tryd.func85 ?_
        · omega
        refine G_ 200 hE ?_
        first | refine rz ?_ | refine ZD_ ?_
        repeat' (first | refine A1_ ?_ | refine C_ hE (fun hc => ?_) (fun hc => ?_) <;> (try (exfalso; omega)))
        rw [show takeF m n got p = (decide (gb p 0 &&& 64 = 0), 0, true, firstN (gb p 0) (p.drop 1) n, got ++ firstR (gb p 0) (p.drop 1) n) by (simp only [takeF, takeH]; (repeat' split) <;> first | rfl | contradiction | omega | grind)]
        exact retr_
  · refine wv_ (so_ 900 2 901 0) ?_
    repeat' (first | refine A1_ ?_ | refine C_ hE (fun hc => ?_) (fun hc => ?_) <;> (try (exfalso; omega)))
    · rw [show takeF m n got p = (false, 2, true, n, got) by (simp only [takeF, takeH, List.length_drop]; (repeat' split) <;> first | rfl | contradiction | omega | grind)]
      exact retr_
    · first | refine O_ ?_ | refine OD_ hm ?_
      refine G_ 200 hE ?_
      refine rc_ hE hP (clone_fc GE _ ?_) Tryd.func85 ?_
      · simp; omega
      refine G_ 200 hE ?_
      first | refine rz ?_ | refine ZD_ ?_
      repeat' (first | refine A1_ ?_ | refine C_ hE (fun hc => ?_) (fun hc => ?_) <;> (try (exfalso; omega)))
      rw [show takeF m n got p = (decide (gb p 0 &&& 64 = 0), 0, true, n, got ++ p.drop 1) by (simp only [takeF, takeH, List.length_drop]; (repeat' split) <;> first | rfl | contradiction | omega | grind)]
      exact retr_
end Go.Proofs.YtocfhkmdkdjinaaDoor

/- The functions of the piece seat: Take. Printed by wp.py. -/
namespace Go.Proofs.YtocfhkmdkdjinaaDoor
open Go Go.RowKit
set_option linter.unusedVariables false
set_option linter.unusedSimpArgs false
set_option maxRecDepth 100000
set_option maxHeartbeats 4000000
attribute [local irreducible] inR VC RG VCn sq inS lq nq jq Wk

/-- (*Joiner).Take: out, done, code; begun, size, got. -/
def takeT (m : Bool) (n : Int) (got p : List UInt8) : List UInt8 × Bool × Int × Bool × Int × List UInt8 :=
  let r := takeF m n got p
  if r.2.1 = 0 ∧ r.1 = false then ([], false, 0, r.2.2)
  else if r.2.1 = 0 then (r.2.2.2.2, true, 0, false, 0, [])
  else ([], false, r.2.1, false, 0, [])

open Uno
theorem Take_fc (m : Bool) (n : Int) (got p : List UInt8) (hl : got.length + p.length ≤ 140737488355328) : FC Tryd.prog GE 66 [.ownp [.bool m, .int .i64 n, .ownb got], .rob p] (.tup [.ownb (takeT m n got p).1, .bool (takeT m n got p).2.1, .int .i64 (takeT m n got p).2.2.1]) (some [.bool (takeT m n got p).2.2.2.1, .int .i64 (takeT m n got p).2.2.2.2.1, .ownb (takeT m n got p).2.2.2.2.2]) := by
  refine fo_ 35 [4, 5, 6] ti_eq gpE Tryd.func66 (fun C hE hm hP hr9 hrn => ?_)
  repeat' (first | refine A1_ ?_ | refine C_ hE (fun hc => ?_) (fun hc => ?_) <;> (try (exfalso; omega)))
  first | refine O_ ?_ | refine OD_ hm ?_
  refine G_ 200 hE ?_
  refine rc_ hE hP (take_fc _ _ _ _ hl) Tryd.func101 ?_
  refine G_ 200 hE ?_
  first | refine rz ?_ | refine ZD_ ?_
  repeat' (first | refine A1_ ?_ | refine C_ hE (fun hc => ?_) (fun hc => ?_) <;> (try (exfalso; omega)))
  · rw [show takeT m n got p = ([], false, 0, (takeF m n got p).2.2) by (simp only [takeT]; (repeat' split) <;> first | rfl | contradiction | omega | grind)]
    exact retr_
  · refine wv_ (so_ 900 2 901 0) ?_
    repeat' (first | refine A1_ ?_ | refine C_ hE (fun hc => ?_) (fun hc => ?_) <;> (try (exfalso; omega)))
    · rw [show takeT m n got p = ([], false, (takeF m n got p).2.1, false, 0, []) by (simp only [takeT]; (repeat' split) <;> first | rfl | contradiction | omega | grind)]
      exact retr_
    · rw [show takeT m n got p = ((takeF m n got p).2.2.2.2, true, 0, false, 0, []) by (simp only [takeT]; (repeat' split) <;> first | rfl | contradiction | omega | grind)]
      exact retr_
end Go.Proofs.YtocfhkmdkdjinaaDoor

/- The functions of the piece seat: Split. Printed by wp.py. -/
namespace Go.Proofs.YtocfhkmdkdjinaaDoor
open Go Go.RowKit
set_option linter.unusedVariables false
set_option linter.unusedSimpArgs false
set_option maxRecDepth 100000
set_option maxHeartbeats 4000000
attribute [local irreducible] inR VC RG VCn sq inS lq nq jq Wk rq

/-- piece.Split. -/
def n4 (n : Nat) : List UInt8 := [b8 ((n : Int) / 16777216), b8 ((n : Int) / 65536), b8 ((n : Int) / 256), b8 (n : Int)]
def hdL (f : List UInt8) (s : Nat) : List UInt8 := 192 :: (n4 f.length ++ f.take (s - 5))
def pk (f : List UInt8) (s k : Nat) : List UInt8 := 64 :: pc (f.drop (s - 5)) (s - 1) k
def rawL (f : List UInt8) (s : Nat) (ks : List Nat) : List (List UInt8) := hdL f s :: ks.map (pk f s)
/-- All but the last one, and that. -/
def rawI (f : List UInt8) (s : Nat) (ks : List Nat) : List (List UInt8) := (rawL f s ks).dropLast
def rawE (f : List UInt8) (s : Nat) (ks : List Nat) : List UInt8 := (rawL f s ks).getLastD []
theorem raw_ie (f : List UInt8) (s : Nat) (ks : List Nat) : rawI f s ks ++ [rawE f s ks] = rawL f s ks := by
  unfold rawI rawE
  have h : rawL f s ks ≠ [] := by unfold rawL; simp
  rw [List.getLastD_eq_getLast?, List.getLast?_eq_some_getLast h]
  exact List.dropLast_concat_getLast h
theorem rawI_len (f : List UInt8) (s : Nat) (ks : List Nat) : (rawI f s ks).length = ks.length := by simp [rawI, rawL]
theorem rawI_s (f : List UInt8) (s : Nat) (ks : List Nat) (k : Nat) : rawI f s (ks ++ [k]) = rawL f s ks ∧ rawE f s (ks ++ [k]) = pk f s k := by
  have h : rawL f s (ks ++ [k]) = rawL f s ks ++ [pk f s k] := by simp [rawL]
  unfold rawI rawE
  rw [h]
  simp
theorem rawE_pos (f : List UInt8) (s : Nat) (ks : List Nat) : 0 < (rawE f s ks).length := by
  rcases List.eq_nil_or_concat ks with rfl | ⟨l, k, rfl⟩
  · simp [rawE, rawL, hdL]
  · rw [List.concat_eq_append, (rawI_s f s l k).2]
    simp [pk]
def splitL (f : List UInt8) (s : Nat) : List (List UInt8) := if f.length ≤ s - 1 then [0 :: f] else rawI f s (List.range (pcN (f.length - (s - 5)) (s - 1))) ++ [(rawE f s (List.range (pcN (f.length - (s - 5)) (s - 1)))).set 0 0]
def splitE (f : List UInt8) (s : Int) : Int := if s < 16 ∨ 4000 < s then 1 else if 32768 < (f.length : Int) then 4 else 0
def splitP (f : List UInt8) (s : Int) : List (List UInt8) := if splitE f s = 0 then splitL f s.toNat else []

open Uno
theorem Split_fc (f : List UInt8) (s : Int) : FC Tryd.prog GE 62 [.rob f, .int .i64 s] (.tup [.owns 1 (splitP f s).length ((splitP f s).map D.rob), .int .i64 (splitE f s)]) none := by
  refine fi_ 72 [4, 5] ti_eq gpE Tryd.func62 (fun C hE hm hP hrc hrn => ?_)
  repeat' (first | refine A1_ ?_ | refine C_ hE (fun hc => ?_) (fun hc => ?_) <;> (try (exfalso; omega)))
  · rw [show splitP f s = [] by (simp only [splitP, splitE]; (repeat' split) <;> first | rfl | contradiction | omega | grind)]
    rw [show splitE f s = 1 by (simp only [splitE]; (repeat' split) <;> first | rfl | contradiction | omega | grind)]
    exact ret_
  · rw [show splitP f s = [] by (simp only [splitP, splitE]; (repeat' split) <;> first | rfl | contradiction | omega | grind)]
    rw [show splitE f s = 4 by (simp only [splitE]; (repeat' split) <;> first | rfl | contradiction | omega | grind)]
    exact ret_
  · have h0 : splitE f s = 0 := by simp only [splitE]; (repeat' split) <;> first | rfl | omega
    rw [h0]
    rw [show splitP f s = [0 :: f] by unfold splitP; rw [if_pos h0]; unfold splitL; rw [if_pos (by omega)]]
    simp only [List.map_cons, List.map_nil, List.length_cons, List.length_nil]
    exact ret_
  · have h0 : splitE f s = 0 := by simp only [splitE]; (repeat' split) <;> first | rfl | omega
    rw [h0]
    obtain ⟨n, rfl⟩ : ∃ n : Nat, s = ((n + 1 : Nat) : Int) := ⟨s.toNat - 1, by omega⟩
    have hs1 : ((n + 1 : Nat) : Int) - 1 = (n : Int) := by omega
    have hs2 : ((n : Nat) : Int) - 4 = ((n - 4 : Nat) : Int) := by omega
    have hmn : min (n - 4) f.length = n - 4 := by omega
    simp only [hs1, hs2, Int.toNat_natCast, hmn]
    first | refine O_ ?_ | refine OD_ hm ?_
    refine G_ 200 hE ?_
    refine rc_ hE hP (chunk_fc GE (f.drop (n - 4)) n ?_) Tryd.func90 ?_
    · omega
    refine G_ 200 hE ?_
    first | refine rz ?_ | refine ZD_ ?_
    refine A_ ?_
    refine wv_ (sc_ 50 0 45) ?_
    refine wv_ (scs_ 8 0 50) ?_
    refine vf (dk := []) (sl := [(56, .chunk 115 (f.drop (n - 4)) n), (8, .ptr 8 1 0)]) hE hrn (by rw [hP]; exact chunk_ok) ?_ ?_ ?_ rfl rfl (fun ks => [(8, ⟨⟨1, 1, 1⟩, some (.cells [.owns 1 (ks.length + 1) (cz (rawI f (n + 1) ks) (rawE f (n + 1) ks))])⟩)]) (fun _ => True) ?_ trivial rfl [8] ?_ ?_ ?_ ?_
    · omega
    · omega
    · simp; omega
    · have e0 : cz (rawI f (n + 1) []) (rawE f (n + 1) []) = [D.ownb (List.take (5 + (n - 4)) (192 :: b8 ((f.length : Int) / 16777216) :: b8 ((f.length : Int) / 65536) :: b8 ((f.length : Int) / 256) :: b8 (f.length : Int) :: List.take (n - 4) f))] := by
        show [D.ownb (hdL f (n + 1))] = [D.ownb _]
        unfold hdL n4
        rw [show n + 1 - 5 = n - 4 by omega, List.take_of_length_le (show (192 :: b8 ((f.length : Int) / 16777216) :: b8 ((f.length : Int) / 65536) :: b8 ((f.length : Int) / 256) :: b8 (f.length : Int) :: List.take (n - 4) f).length ≤ 5 + (n - 4) by simp; omega)]
        rfl
      rw [e0]
      exact wk_ hrc
    · exact look_nm rfl
    · exact fun d v h => absurd h (hrc d v)
    · intro C' pre k hE hP1 hkn _ hk hpre
      have hpb := Nat.lt_of_lt_of_le hpre (pcN_le (show 0 < n by omega))
      simp only [List.length_drop] at hpb
      have hP := hP1.trans hP
      have hm : C'.P.follows .mixedOrders = true := by rw [hP]; kernel_rfl
      clear hrc hrn
      refine wv_ (sos_ 8 0 902 0) ?_
      have hpl : (pc (List.drop (n - 4) f) n k).length ≤ n := by unfold pc; rw [List.length_take]; omega
      have hrl : (rawL f (n + 1) pre).length = pre.length + 1 := by simp [rawL]
      have htk : (rawL f (n + 1) pre).take (pre.length + 1) = rawL f (n + 1) pre := by rw [← hrl, List.take_length]
      refine wv_ (sf_ 902 (hcs := by exact ((frz_cz _ _)))) ?_
      rw [raw_ie]
      repeat' (first | refine A1_ ?_ | refine C_ hE (fun hc => ?_) (fun hc => ?_) <;> (try (exfalso; omega)))
      rw [htk]
      refine rq_n ?_ trivial
      refine wclose 902 (rawL f (n + 1) pre).length 59 rfl (cat_last _ _) rfl rfl rfl rfl (cat_set _ _ _) ?_
      refine wcloses 8 0 902 rfl rfl rfl rfl rfl rfl rfl (by simp [hrl]) (fr0_cz _ _) rfl ?_
      obtain ⟨e1, e2⟩ := rawI_s f (n + 1) pre k
      rw [e1, e2]
      refine wk_ofk rfl ?_ ?_ (fun d v h o ho => by have := hkn d v h o ho; simp at this ⊢; try omega) <;> (repeat' apply And.intro) <;> first | exact trivial | rfl | (intro o ho; simp [D.nm, nmL, ctNm, nmL_ownb, nmL_rob, nmL_str, nmL_cz] at ho <;> fail) | (intro o ho; simp [D.nm, nmL, ctNm, nmL_ownb, nmL_rob, nmL_str, nmL_cz] at ho ⊢ <;> omega) | (simp only [Z, U, Int.cast_ofNat_Int, UInt8.reduceToNat, UInt32.reduceToNat, Nat.reduceAdd, Nat.reduceMul, Nat.reduceSub, Nat.reduceLeDiff, Int.reduceToNat, Int.reducePow, Nat.reducePow] <;> fail) | (simp [St.ob, St.slot, look] <;> fail) | (simp [St.ob, St.slot, look]; omega) | simp [St.ob, St.slot, look] | skip
      · unfold cz pk
        rw [List.take_of_length_le (by simp; omega), show n + 1 - 5 = n - 4 by omega]
        rfl
    · intro dk' _
      refine in_n ?_
      refine sq_n ?_
      rw [List.length_range]
      generalize hK : pcN (List.drop (n - 4) f).length n = K at *
      have hKb : K ≤ (List.drop (n - 4) f).length := by rw [← hK]; exact pcN_le (by omega)
      simp only [List.length_drop] at hKb
      have hRl := rawI_len f (n + 1) (List.range K)
      rw [List.length_range] at hRl
      generalize hR : rawI f (n + 1) (List.range K) = R at *
      have hXp := rawE_pos f (n + 1) (List.range K)
      generalize hX : rawE f (n + 1) (List.range K) = X at *
      refine wv_ (sos_ 8 0 902 0) ?_
      refine vc_open 902 R.length 903 (g := 0) (l := X) rfl (cz_last _ _) rfl rfl (cz_set _ _ _) ?_
      refine vs ?_
      first | refine O_ ?_ | refine OD_ hm ?_
      refine G_ 5 hE ?_
      have hKi : ((K + 1 : Nat) : Int) - 1 = (R.length : Int) := by omega
      simp only [hKi, Int.toNat_natCast]
      have hcell := cat_get R (D.sl 903 1 0 X.length)
      refine L_ hE ?_ (hd := by exact hcell) (hg := by simp only [hcell]; exact sg_)
      refine G_ 200 hE ?_
      first | refine rz ?_ | refine ZD_ ?_
      refine sq_n ?_
      refine vc_close 902 R.length 903 rfl (cat_last _ _) rfl rfl rfl rfl (cat_set _ _ _) ?_
      rw [List.drop_zero, List.take_of_length_le (by simp)]
      refine vc_freeze 902 rfl (fr0_cz R (X.set 0 0)) (frz_cz R (X.set 0 0)) ?_
      have hsp : splitP f ((n + 1 : Nat) : Int) = R ++ [X.set 0 0] := by
        unfold splitP splitL
        rw [if_pos h0, Int.toNat_natCast, if_neg (by omega), show n + 1 - 5 = n - 4 by omega, Nat.add_sub_cancel, ← List.length_drop, hK, hR, hX]
      rw [hsp]
      repeat' (first | refine A1_ ?_ | refine C_ hE (fun hc => ?_) (fun hc => ?_) <;> (try (exfalso; omega)))
      exact ret_ (h := by (first | exact Mat.tnil | apply mat1 rfl | apply mat2 rfl rfl | apply mat3 rfl rfl rfl) <;> (repeat' (first | exact .tnil | exact mat_eq rfl rfl | apply mat_i | apply mat_bl | apply mat_u8 | apply mat_u32 | apply mat_st | apply mat_ab | apply mat_rbe | apply mat_nrb | apply mat_nob | exact mat_nos rfl rfl | exact mat_rf0 rfl | exact mat_trob | (apply mat_rf rfl rfl rfl) | refine mat_slf (e := 1) rfl rfl rfl rfl ?_ ?_ ?_ (by first | exact fr0_rob _ | exact fr0_str _ | exact fr0_str _) | (apply mat_sls rfl rfl rfl rfl rfl rfl) | exact mat_pf rfl rfl rfl rfl rfl | (apply mat_s0 rfl rfl rfl; (· first | rfl | (simp <;> fail) | (simp; omega) | omega)) | (apply mat_r0 rfl rfl rfl; (· first | rfl | (simp <;> fail) | (simp; omega) | omega)) | apply mat_sl rfl rfl rfl | apply mat_rb rfl rfl rfl | apply mat_p rfl rfl rfl rfl | apply mc)) <;> (first | rfl | assumption | (simp only [Z, U, Int.cast_ofNat_Int, UInt8.reduceToNat, UInt32.reduceToNat, Nat.reduceAdd, Nat.reduceMul, Nat.reduceSub, Nat.reduceLeDiff, Int.reduceToNat, Int.reducePow, Nat.reducePow] <;> fail) | (simp <;> fail) | omega | (simp [List.take_of_length_le] <;> fail) | (simp [hRl])))
end Go.Proofs.YtocfhkmdkdjinaaDoor

/- Pieces of a flight, in plain Lean. -/
namespace Go.Proofs.YtocfhkmdkdjinaaDoor
open Go Go.RowKit
set_option linter.unusedVariables false

theorem n4_len (n : Nat) : (n4 n).length = 4 := rfl
theorem splitE_ok {f : List UInt8} {s : Nat} (h1 : 16 ≤ s) (h2 : s ≤ 4000) : splitE f s = if 32768 < f.length then 4 else 0 := by
  unfold splitE
  rw [if_neg (by omega)]
  split <;> split <;> first | rfl | omega
theorem splitP_ok {f : List UInt8} {s : Nat} (h1 : 16 ≤ s) (h2 : s ≤ 4000) (h3 : f.length ≤ 32768) : splitP f s = splitL f s ∧ splitE f s = 0 := by
  have : splitE f s = 0 := by rw [splitE_ok h1 h2, if_neg (by omega)]
  refine ⟨?_, this⟩
  unfold splitP
  rw [if_pos this, Int.toNat_natCast]
theorem splitP_big {f : List UInt8} {s : Nat} (h1 : 16 ≤ s) (h2 : s ≤ 4000) (h3 : 32768 < f.length) : splitP f s = [] ∧ splitE f s = 4 := by
  have : splitE f s = 4 := by rw [splitE_ok h1 h2, if_pos h3]
  refine ⟨?_, this⟩
  unfold splitP
  rw [if_neg (by rw [this]; decide)]
theorem splitL_one {f : List UInt8} {s : Nat} (h : f.length ≤ s - 1) : splitL f s = [0 :: f] := by unfold splitL; rw [if_pos h]
/-- How many there are. -/
def splitK (f : List UInt8) (s : Nat) : Nat := pcN (f.length - (s - 5)) (s - 1)
theorem splitL_many {f : List UInt8} {s : Nat} (h : ¬ f.length ≤ s - 1) : splitL f s = rawI f s (List.range (splitK f s)) ++ [(rawE f s (List.range (splitK f s))).set 0 0] := by unfold splitL splitK; rw [if_neg h]
theorem splitL_len {f : List UInt8} {s : Nat} (h : ¬ f.length ≤ s - 1) : (splitL f s).length = splitK f s + 1 := by rw [splitL_many h, List.length_append, rawI_len, List.length_range]; rfl
theorem splitK_pos {f : List UInt8} {s : Nat} (h1 : 16 ≤ s) (h : ¬ f.length ≤ s - 1) : 0 < splitK f s := (pcN_lt (by omega)).2 (by omega)
theorem pc_full {l : List UInt8} {n k : Nat} (h : (k + 1) * n ≤ l.length) : (pc l n k).length = n := by
  unfold pc
  rw [List.length_take, List.length_drop]
  rw [Nat.add_mul, Nat.one_mul] at h
  omega
/-- All but the last one: the first, and the full ones. -/
theorem rawI_range (f : List UInt8) (s K : Nat) (h : 0 < K) : rawI f s (List.range K) = hdL f s :: (List.range (K - 1)).map (pk f s) := by
  obtain ⟨k, rfl⟩ : ∃ k, K = k + 1 := ⟨K - 1, by omega⟩
  rw [List.range_succ, (rawI_s f s (List.range k) k).1]
  rfl
theorem rawE_range (f : List UInt8) (s K : Nat) (h : 0 < K) : rawE f s (List.range K) = pk f s (K - 1) := by
  obtain ⟨k, rfl⟩ : ∃ k, K = k + 1 := ⟨K - 1, by omega⟩
  rw [List.range_succ, (rawI_s f s (List.range k) k).2]
  rfl
theorem hdL_len {f : List UInt8} {s : Nat} (h1 : 16 ≤ s) (h : ¬ f.length ≤ s - 1) : (hdL f s).length = s := by
  simp [hdL, n4_len]
  omega
theorem full_lt {f : List UInt8} {s k : Nat} (h1 : 16 ≤ s) (h : k + 1 < splitK f s) : (k + 1) * (s - 1) ≤ (f.drop (s - 5)).length := by
  have := (pcN_lt (m := f.length - (s - 5)) (n := s - 1) (k := k + 1) (by omega)).1 h
  rw [List.length_drop]
  omega
theorem pk_len {f : List UInt8} {s k : Nat} (h1 : 16 ≤ s) (h : k + 1 < splitK f s) : (pk f s k).length = s := by
  unfold pk
  rw [List.length_cons, pc_full (full_lt h1 h)]
  omega
/-- Each but the last one is full. -/
theorem splitL_full {f : List UInt8} {s i : Nat} (h1 : 16 ≤ s) (h : ¬ f.length ≤ s - 1) (hi : i < splitK f s) : ((splitL f s).getD i []).length = s := by
  have hp := splitK_pos h1 h
  rw [splitL_many h, rawI_range _ _ _ hp, List.getD_eq_getElem?_getD, List.getElem?_append_left (by simp; omega)]
  rcases i with _ | i
  · simp [hdL_len h1 h]
  · rw [List.getElem?_cons_succ, List.getElem?_map, List.getElem?_range (by omega)]
    exact pk_len h1 hi
end Go.Proofs.YtocfhkmdkdjinaaDoor

/- Pieces that are put together, in plain Lean. -/
namespace Go.Proofs.YtocfhkmdkdjinaaDoor
open Go Go.RowKit
set_option linter.unusedVariables false

theorem gb_c (x : UInt8) (l : List UInt8) : gb (x :: l) 0 = x := rfl
theorem take_mid {n : Int} {got r : List UInt8} (h1 : 0 < r.length) (h2 : (got.length : Int) + (r.length : Int) ≤ n) : takeT true n got (64 :: r) = ([], false, 0, true, n, got ++ r) := by
  have h : takeF true n got (64 :: r) = (false, 0, true, n, got ++ r) := by
    unfold takeF
    simp only [gb_c, List.drop_succ_cons, List.drop_zero, List.length_cons]
    rw [if_neg (by rintro (h | ⟨h, _⟩); omega; exact h (by decide)), if_neg (by decide), if_pos trivial]
    unfold takeH
    rw [if_neg (by rintro ((h | ⟨h, _⟩) | ⟨_, h⟩); omega; exact absurd h (by decide); omega)]
    rfl
  unfold takeT
  rw [h]
  rfl
theorem take_last {n : Int} {got r : List UInt8} (h2 : (got.length : Int) + (r.length : Int) = n) : takeT true n got (0 :: r) = (got ++ r, true, 0, false, 0, []) := by
  have h : takeF true n got (0 :: r) = (true, 0, true, n, got ++ r) := by
    unfold takeF
    simp only [gb_c, List.drop_succ_cons, List.drop_zero, List.length_cons]
    rw [if_neg (by rintro (h | ⟨h, _⟩); omega; exact h (by decide)), if_neg (by decide), if_pos trivial]
    unfold takeH
    rw [if_neg (by simp; omega)]
    rfl
  unfold takeT
  rw [h]
  rfl
theorem take_one {f : List UInt8} (h : f.length ≤ 32768) : takeT false 0 [] (0 :: f) = (f, true, 0, false, 0, []) := by
  have h : takeF false 0 [] (0 :: f) = (true, 0, true, (f.length : Int), f) := by
    have e1 : firstN 0 f 0 = f.length := rfl
    have e2 : firstC 0 f 0 = 0 := by
      unfold firstC
      rw [if_neg (by decide), e1, if_neg (by omega)]
    have e3 : firstR 0 f 0 = f := by
      unfold firstR
      rw [if_pos e2]
      rfl
    unfold takeF
    simp only [gb_c, List.drop_succ_cons, List.drop_zero, List.length_cons]
    rw [if_neg (by simp; omega), if_neg (by decide), if_neg (by decide), if_neg (by rw [e2]; simp), e1, e3]
    unfold takeH
    rw [if_neg (by simp)]
    rfl
  unfold takeT
  rw [h]
  rfl
theorem ori_nat (a b : Nat) (ha : a < 4294967296) (hb : b < 4294967296) : orI (a : Int) (b : Int) = ((a ||| b : Nat) : Int) := by
  have h := Nat.or_lt_two_pow (n := 32) ha hb
  show IntKind.i64.wrap ((BitVec.ofInt 64 (a : Int) ||| BitVec.ofInt 64 (b : Int)).toNat : Int) = _
  rw [BitVec.toNat_or, BitVec.ofInt_natCast, BitVec.ofInt_natCast, BitVec.toNat_ofNat, BitVec.toNat_ofNat, Nat.mod_eq_of_lt (by omega), Nat.mod_eq_of_lt (by omega), IntKind.wrap_i64]
  omega
theorem pjb8_mod (x : Nat) : ((b8 (x : Int)).toNat) = x % 256 := by
  unfold b8
  rw [UInt8.toNat_ofNat']
  omega
theorem be4_n4 {n : Nat} (h : n ≤ 32768) (t : List UInt8) : be4 (n4 n ++ t) = n := by
  have e0 : gb (n4 n ++ t) 0 = b8 ((n / 16777216 : Nat) : Int) := by show b8 ((n : Int) / 16777216) = _; congr 1
  have e1 : gb (n4 n ++ t) 1 = b8 ((n / 65536 : Nat) : Int) := by show b8 ((n : Int) / 65536) = _; congr 1
  have e2 : gb (n4 n ++ t) 2 = b8 ((n / 256 : Nat) : Int) := by show b8 ((n : Int) / 256) = _; congr 1
  have e3 : gb (n4 n ++ t) 3 = b8 (n : Int) := rfl
  unfold be4
  rw [e0, e1, e2, e3, pjb8_mod, pjb8_mod, pjb8_mod, pjb8_mod, show n / 16777216 % 256 = 0 by omega, show n / 65536 % 256 = 0 by omega]
  have q1 : orI (((0 : Nat) : Int) * 16777216) (((0 : Nat) : Int) * 65536) = ((0 : Nat) : Int) := by decide
  have q2 : orI ((0 : Nat) : Int) (((n / 256 % 256 : Nat) : Int) * 256) = ((n / 256 % 256 : Nat) : Int) * 256 := by
    rw [show ((n / 256 % 256 : Nat) : Int) * 256 = ((n / 256 % 256 * 256 : Nat) : Int) by omega, ori_nat _ _ (by omega) (by omega), Nat.zero_or]
  rw [q1, q2]
  unfold orI
  rw [or16 _ _ (by omega) (by omega)]
  omega
theorem take_head {f t : List UInt8} (h : f.length ≤ 32768) (h1 : 0 < t.length) (h2 : t.length ≤ f.length) : takeT false 0 [] (192 :: (n4 f.length ++ t)) = ([], false, 0, true, (f.length : Int), t) := by
  have h : takeF false 0 [] (192 :: (n4 f.length ++ t)) = (false, 0, true, (f.length : Int), t) := by
    have e1 : firstN 192 (n4 f.length ++ t) 0 = f.length := by unfold firstN; rw [if_neg (by decide)]; exact be4_n4 h t
    have e2 : firstC 192 (n4 f.length ++ t) 0 = 0 := by
      unfold firstC
      rw [if_neg (by decide), e1, if_neg (by omega)]
    have e3 : firstR 192 (n4 f.length ++ t) 0 = t := by
      unfold firstR
      rw [if_pos e2]
      rfl
    unfold takeF
    simp only [gb_c, List.drop_succ_cons, List.drop_zero, List.length_cons]
    rw [if_neg (by rintro (h | ⟨_, h⟩) <;> rw [List.length_append, n4_len] at h <;> omega), if_neg (by decide), if_neg (by decide), if_neg (by rw [e2]; simp), e1, e3]
    unfold takeH
    rw [if_neg (by rintro ((h | ⟨h, _⟩) | ⟨_, h⟩); (simp at h; omega); exact absurd h (by decide); omega)]
    rw [List.nil_append, show decide ((192 : UInt8) &&& 64 = 0) = false by decide]
  unfold takeT
  rw [h]
  simp
/-- What a joiner holds behind i pieces of a flight. -/
def joinS (f : List UInt8) (s i : Nat) : Bool × Int × List UInt8 :=
  if i = 0 ∨ i = (splitL f s).length then (false, 0, []) else (true, (f.length : Int), f.take (s - 5 + (i - 1) * (s - 1)))
theorem pc_at (f : List UInt8) (a n k : Nat) : pc (f.drop a) n k = (f.drop (a + k * n)).take n := by
  unfold pc
  rw [List.drop_drop]
theorem take_pc (f : List UInt8) (a n k : Nat) : f.take (a + k * n) ++ pc (f.drop a) n k = f.take (a + (k + 1) * n) := by
  rw [pc_at, ← List.take_add, Nat.add_mul, Nat.one_mul, Nat.add_assoc]
theorem getD_mid {f : List UInt8} {s i : Nat} (h1 : 16 ≤ s) (h : ¬ f.length ≤ s - 1) (hi : i < splitK f s) : (splitL f s).getD i [] = if i = 0 then hdL f s else pk f s (i - 1) := by
  have hp := splitK_pos h1 h
  rw [splitL_many h, rawI_range _ _ _ hp, List.getD_eq_getElem?_getD, List.getElem?_append_left (by simp; omega)]
  rcases i with _ | i
  · rfl
  · rw [List.getElem?_cons_succ, List.getElem?_map, List.getElem?_range (by omega), if_neg (by omega)]
    rfl
theorem getD_end {f : List UInt8} {s : Nat} (h1 : 16 ≤ s) (h : ¬ f.length ≤ s - 1) : (splitL f s).getD (splitK f s) [] = 0 :: pc (f.drop (s - 5)) (s - 1) (splitK f s - 1) := by
  have hp := splitK_pos h1 h
  rw [splitL_many h, rawE_range _ _ _ hp, List.getD_eq_getElem?_getD, List.getElem?_append_right (by rw [rawI_len, List.length_range]; exact Nat.le_refl _), rawI_len, List.length_range, Nat.sub_self]
  rfl
theorem last_lt {f : List UInt8} {s : Nat} (h1 : 16 ≤ s) (h : ¬ f.length ≤ s - 1) : s - 5 + (splitK f s - 1) * (s - 1) < f.length ∧ f.length ≤ s - 5 + splitK f s * (s - 1) := by
  have hp := splitK_pos h1 h
  have a := (pcN_lt (m := f.length - (s - 5)) (n := s - 1) (k := splitK f s - 1) (by omega)).1 (show splitK f s - 1 < splitK f s by omega)
  have b := mt (pcN_lt (m := f.length - (s - 5)) (n := s - 1) (k := splitK f s) (by omega)).2 (Nat.lt_irrefl _)
  omega
theorem jS0 (f : List UInt8) (s : Nat) : joinS f s 0 = (false, 0, []) := if_pos (.inl rfl)
theorem jSL {f : List UInt8} {s i : Nat} (h : i = (splitL f s).length) : joinS f s i = (false, 0, []) := if_pos (.inr h)
theorem jSm {f : List UInt8} {s i : Nat} (h0 : i ≠ 0) (h : i ≠ (splitL f s).length) : joinS f s i = (true, (f.length : Int), f.take (s - 5 + (i - 1) * (s - 1))) := if_neg (by omega)
theorem join_step {f : List UInt8} {s i : Nat} (h1 : 16 ≤ s) (h3 : f.length ≤ 32768) (hi : i < (splitL f s).length) :
    takeT (joinS f s i).1 (joinS f s i).2.1 (joinS f s i).2.2 ((splitL f s).getD i []) = (if i + 1 = (splitL f s).length then f else [], decide (i + 1 = (splitL f s).length), 0, joinS f s (i + 1)) := by
  by_cases h : f.length ≤ s - 1
  · have hL : (splitL f s).length = 1 := by rw [splitL_one h]; rfl
    obtain rfl : i = 0 := by omega
    rw [jS0, jSL (i := 0 + 1) (by omega), if_pos (by omega), decide_eq_true (show 0 + 1 = (splitL f s).length by omega), splitL_one h]
    exact take_one h3
  · have hL := splitL_len h
    have hp := splitK_pos h1 h
    obtain ⟨hl1, hl2⟩ := last_lt h1 h
    by_cases hk : i = splitK f s
    · subst hk
      rw [jSm (i := splitK f s) (by omega) (by omega), jSL (i := splitK f s + 1) (by omega), if_pos (by omega), decide_eq_true (show splitK f s + 1 = (splitL f s).length by omega), getD_end h1 h]
      have e := take_pc f (s - 5) (s - 1) (splitK f s - 1)
      rw [show splitK f s - 1 + 1 = splitK f s by omega, List.take_of_length_le hl2] at e
      have el := congrArg List.length e
      rw [List.length_append] at el
      show takeT true (f.length : Int) (f.take (s - 5 + (splitK f s - 1) * (s - 1))) _ = _
      rw [take_last (by omega), e]
    · have hi' : i < splitK f s := by omega
      rw [getD_mid h1 h hi', jSm (i := i + 1) (by omega) (by omega), if_neg (show ¬ i + 1 = (splitL f s).length by omega), decide_eq_false (show ¬ i + 1 = (splitL f s).length by omega), Nat.add_sub_cancel]
      by_cases h0 : i = 0
      · subst h0
        rw [if_pos rfl, jS0, Nat.zero_mul, Nat.add_zero]
        exact take_head h3 (by rw [List.length_take]; omega) (by rw [List.length_take]; omega)
      · have hlt : s - 5 + i * (s - 1) ≤ f.length := by
          have := full_lt (f := f) (s := s) (k := i - 1) h1 (by omega)
          rw [List.length_drop, show i - 1 + 1 = i by omega] at this
          have := Nat.mul_pos (show 0 < i by omega) (show 0 < s - 1 by omega)
          omega
        have hpl : (pc (f.drop (s - 5)) (s - 1) (i - 1)).length = s - 1 := pc_full (full_lt h1 (by omega))
        have e := take_pc f (s - 5) (s - 1) (i - 1)
        rw [show i - 1 + 1 = i by omega] at e
        have el := congrArg List.length e
        rw [List.length_append, List.length_take (i := s - 5 + i * (s - 1))] at el
        rw [if_neg h0, jSm h0 (by omega)]
        show takeT true (f.length : Int) (f.take (s - 5 + (i - 1) * (s - 1))) (64 :: pc (f.drop (s - 5)) (s - 1) (i - 1)) = _
        rw [take_mid (by omega) (by omega), e]
theorem joinS_len (f : List UInt8) (s i : Nat) : (joinS f s i).2.2.length ≤ f.length := by
  unfold joinS
  split
  · simp
  · show (f.take _).length ≤ _
    rw [List.length_take]
    omega
theorem splitL_le {f : List UInt8} {s : Nat} (h1 : 16 ≤ s) (i : Nat) : ((splitL f s).getD i []).length ≤ s := by
  by_cases h : f.length ≤ s - 1
  · rw [splitL_one h]
    rcases i with _ | i
    · show f.length + 1 ≤ s
      omega
    · simp
  · have hL := splitL_len h
    rcases Nat.lt_trichotomy i (splitK f s) with hi | hi | hi
    · exact Nat.le_of_eq (splitL_full h1 h hi)
    · subst hi
      rw [getD_end h1 h, List.length_cons]
      unfold pc
      rw [List.length_take]
      omega
    · rw [List.getD_eq_getElem?_getD, List.getElem?_eq_none (by omega)]
      simp
theorem split_ne {f : List UInt8} {s : Int} (h : 0 < (splitP f s).length) : ∃ z : Nat, s = z ∧ 16 ≤ z ∧ z ≤ 4000 ∧ f.length ≤ 32768 ∧ splitP f s = splitL f z ∧ splitE f s = 0 := by
  by_cases he : splitE f s = 0
  · have h0 := he
    unfold splitE at h0
    split at h0
    · cases h0
    · split at h0
      · cases h0
      · refine ⟨s.toNat, by omega, by omega, by omega, by omega, ?_, he⟩
        unfold splitP
        rw [if_pos he]
  · unfold splitP at h
    rw [if_neg he] at h
    exact absurd h (by decide)
end Go.Proofs.YtocfhkmdkdjinaaDoor
