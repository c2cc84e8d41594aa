/- What the claim leans on, text Zsi: Ra27. No condition beyond what each lemma states. -/
import Derived.Test.YtocfhkmdkdjinaaDoorZd
import Derived.Test.YtocfhkmdkdjinaaDoorZt
import Derived.Test.YtocfhkmdkdjinaaDoorZse
import Derived.Test.YtocfhkmdkdjinaaDoorZsb
import Derived.Test.YtocfhkmdkdjinaaDoorZsf
import Derived.Test.YtocfhkmdkdjinaaDoorZsh

/- RadiusSplits returns true. Printed by wp.py. -/
namespace Go.Proofs.YtocfhkmdkdjinaaDoor
open Go Go.RowKit
set_option linter.unusedVariables false
set_option linter.unusedSimpArgs false
set_option maxRecDepth 100000
set_option maxHeartbeats 4000000
attribute [local irreducible] inR VC RG VCn sq inS lq nq jq Wk
theorem tk_minQ (v : List UInt8) (n : Nat) : List.take (min (v.length : Int) (n : Int)).toNat v = v.take n := by
  rcases Nat.lt_or_ge n v.length with h | h
  · rw [show (min (v.length : Int) (n : Int)).toNat = n by omega]
  · rw [List.take_of_length_le (by omega), List.take_of_length_le h]
theorem nmL_atRQ : ∀ L : List (Int × List UInt8), nmL (atR L) = []
  | [] => rfl
  | a :: L => by
    show nmL ([D.int .i64 a.1, D.rob a.2] ++ atR L) = []
    rw [nmL_append, nmL_atRQ L]
    rfl
theorem attrsTQ_fc (L : List (Int × List UInt8)) (hL : L.length ≤ 1000000) : FC Tryd.prog GE 44 [.rof 2 L.length (fS L), .rof 2 L.length (fS L)] (.bool true) none := by
  have h := rattrs_fc L L hL
  rw [decide_eq_true rfl] at h
  exact h
theorem tmLQ_le (L : List (Int × List UInt8)) : (tmL L).length ≤ 20 := by rw [tmL_len]; omega
attribute [local simp] nmL_atS atS_fr atS_nil nmL_atRQ
theorem joA_sp (l : List UInt8) : ∀ n, joA (spL l (List.range n)) = l.take (n * 253)
  | 0 => by rw [Nat.zero_mul, List.take_zero]; rfl
  | n + 1 => by
    have e : joA [((79 : Int), pc l 253 n)] = pc l 253 n := by unfold joA; rw [if_pos rfl]; unfold joA; rw [List.append_nil]
    rw [List.range_succ, spL_s, joA_app, joA_sp l n, e]
    unfold pc
    rw [Nat.succ_mul, List.take_add]
theorem joA_split (l : List UInt8) : joA (spL l (List.range (pcN l.length 253))) = l := by
  rw [joA_sp, List.take_of_length_le]
  unfold pcN
  omega
theorem joA_tm : ∀ (L : List (Int × List UInt8)) (m : Nat), (∀ a ∈ L, a.2.length ≤ m) → (joA L).length ≤ L.length * m
  | [], m, _ => by unfold joA; simp
  | a :: L, m, h => by
    have h1 := joA_tm L m (fun b hb => h b (List.mem_cons_of_mem _ hb))
    have h2 := h a List.mem_cons_self
    have h3 : (if a.1 = 79 then a.2 else []).length ≤ m := by
      split
      · exact h2
      · exact Nat.zero_le _
    unfold joA
    rw [List.length_append, List.length_cons, Nat.succ_mul]
    omega
attribute [local irreducible] bodyA wrS wrO idxF idxM z16 seV slV rpV rdO rdS prs rdP prC cutI opA ofP opnP opdP opdS md tmL spL joA fnd

namespace UradiusSplits_fc
theorem U : type_of% (@drop_rep UInt8) ∧ type_of% (@drop_rep D) ∧ type_of% (@List.take_zero UInt8) ∧ type_of% (@List.take_zero D) ∧ type_of% @q16_take ∧ type_of% @q16_len ∧ type_of% @q16_fold ∧ type_of% @q16_map ∧ type_of% @decL ∧ type_of% @decI ∧ type_of% @atS_len ∧ type_of% @atR_len ∧ type_of% @atO_len ∧ type_of% @md_len ∧ type_of% @md_take ∧ type_of% @hmM_len ∧ type_of% @hmM_take := ⟨(@drop_rep UInt8), (@drop_rep D), (@List.take_zero UInt8), (@List.take_zero D), @q16_take, @q16_len, @q16_fold, @q16_map, @decL, @decI, @atS_len, @atR_len, @atO_len, @md_len, @md_take, @hmM_len, @hmM_take⟩
end UradiusSplits_fc
open UradiusSplits_fc
theorem radiusSplits_fc (lb : List UInt8) (L0 : List (Int × List UInt8)) (kind : Int) : FC Tryd.prog GO 13 [.rob lb, .rof 2 L0.length (fS L0), .int .i64 kind] (.bool true) none := by
  refine fi_ 87 [6] ti_eq gpO Tryd.func13 (fun C hE hm hP hrc hrn => ?_)
  have t2 : List.take (min (lb.length : Int) 1200).toNat lb = lb.take 1200 := tk_minQ lb 1200
  have n2 : (lb.take 1200).length ≤ 1200 := by rw [List.length_take]; omega
  have n1 := tmLQ_le L0
  have nb := @tmL_b L0
  have tf := tame_fc 0 0 z16 L0
  obtain ⟨L, hL⟩ : ∃ L, L = tmL L0 := ⟨_, rfl⟩
  obtain ⟨B, hB⟩ : ∃ B, B = lb.take 1200 := ⟨_, rfl⟩
  rw [← hL] at n1 nb tf
  rw [← hB] at n2 t2
  simp only [z16_gb] at tf
  have spf := split_fc B (by omega)
  have rspf := rsplit_fc B (by omega)
  have hjo := joA_split B
  have hsl : (spL B (List.range (pcN B.length 253))).length ≤ 100 := by rw [spL_len, List.length_range]; unfold pcN; omega
  obtain ⟨P, hP0⟩ : ∃ P, P = spL B (List.range (pcN B.length 253)) := ⟨_, rfl⟩
  rw [← hP0] at spf rspf hjo hsl
  have hjl := joA_tm L 260 nb
  have hjl2 : (joA L).length ≤ 10000 := by
    have := Nat.mul_le_mul_right 260 n1
    omega
  have atf := attrs_fc L (by omega) (fun a ha => by have := nb a ha; omega)
  have fdf := find_fc L kind (by omega) (fun a ha => by have := nb a ha; omega)
  have jnf := join_fc P (by omega) (by rw [hjo]; omega)
  rw [hjo] at jnf
  have jlf := FC.lendO (join_fc L (by omega) (by omega))
  refine vs ?_
  refine R_ hE ?_
  refine sq_n ?_
  refine vs ?_
  refine A_ ?_
  rw [t2]
  first | refine O_ ?_ | refine OD_ hm ?_
  refine G_ 2 hE ?_
  refine rc_ hE hP (tf.any) Tryd.func29 ?_ (hm := by exact ma2_) (hnr := by exact nrt2_) (had := by exact adt2_)
  refine G_ 200 hE ?_
  first | refine rz ?_ | refine ZD_ ?_
  refine A_ ?_
  first | refine O_ ?_ | refine OD_ hm ?_
  refine G_ 1 hE ?_
  refine rc_ hE hP (spf.any) Tryd.func46 ?_ (hm := by exact ma2_) (hnr := by exact nrt2_) (had := by exact adt2_)
  refine G_ 200 hE ?_
  first | refine rz ?_ | refine ZD_ ?_
  refine sq_n ?_
  refine VC.weak ?_ (kfreeze 23 (by exact rfl) (by exact atO_fr P) (by exact atO_frz P))
  refine A_ ?_
  first | refine O_ ?_ | refine OD_ hm ?_
  refine G_ 1 hE ?_
  refine rc_ hE hP (atf.any) Tryd.func48 ?_ (hm := by exact ma2_) (hnr := by exact nrt2_) (had := by exact adt2_)
  refine rg_w (kfreeze 26 (by exact rfl) (by exact atO_fr L) (by exact atO_frz L)) ?_
  refine G_ 1 hE ?_
  refine rc_ hE hP (fdf.any) Tryd.func47 ?_ (hm := by exact ma2_) (hnr := by exact nrt2_) (had := by exact adt2_)
  refine G_ 200 hE ?_
  first | refine rz ?_ | refine ZD_ ?_
  refine A_ ?_
  refine VC.weak ?_ (kgs2 1 18520)
  refine vl (fun k : Nat => ⟨[(0, .rob B), (1, .rof 2 L.length (fS L)), (2, .int .i64 kind), (6, .bool false), (7, .sl 23 1 0 P.length), (8, .sl 28 1 0 (fnd kind L).1.length), (9, .bool (fnd kind L).2), (10, .str (fnd kind (L.drop k)).1), (11, .bool (fnd kind (L.drop k)).2), (12, .int .i64 ((k : Int) - 1))], [(28, ⟨⟨1, 1, (fnd kind L).1.length⟩, some (.bytes (fnd kind L).1)⟩), (23, ⟨⟨1, 2, P.length * 2⟩, some (.cells (atR P))⟩)], []⟩) (fun k => k ≤ L.length) (fun k => k) L.length ?_ (Nat.le_refl _) (fun k hk => ?_)
  · rw [fnd_end kind L L.length (Nat.le_refl _)]
    exact wk_ hrc
  rcases k with _ | j
  · rw [List.drop_zero]
    refine A_ ?_
    first | refine O_ ?_ | refine OD_ hm ?_
    refine rc_ hE hP (speaks_fc) Tryd.func33 ?_
    refine G_ 1 hE ?_
    refine GT_ hE (rfl) ?_
    refine rct_ hE hP ((told_fc P (by omega)).any) Tryd.func45 (rfl) ?_ (hm := by exact ma2_) (hnr := by exact nrt2_) (had := by exact adt2_)
    refine GT_ hE (rfl) ?_
    refine GT_ hE (rfl) ?_
    refine rct_ hE hP (rspf.any) Tryd.func49 (rfl) ?_ (hm := by exact ma2_) (hnr := by exact nrt2_) (had := by exact adt2_)
    refine rct_ hE hP ((attrsTQ_fc P (by omega)).any) Tryd.func44 (rfl) ?_ (hm := by exact ma2_) (hnr := by exact nrt2_) (had := by exact adt2_)
    refine G_ 2 hE ?_
    refine GT_ hE (rfl) ?_
    refine rct_ hE hP (jnf.any) Tryd.func50 (rfl) ?_ (hm := by exact ma2_) (hnr := by exact nrt2_) (had := by exact adt2_)
    refine GT_ hE (rfl) ?_
    refine GT_ hE (rfl) ?_
    refine GT_ hE (rfl) ?_
    refine GT_ hE (rfl) ?_
    refine G_ 2 hE ?_
    refine GT_ hE (rfl) ?_
    refine rct_ hE hP (atf.any) Tryd.func48 (rfl) ?_ (hm := by exact ma2_) (hnr := by exact nrt2_) (had := by exact adt2_)
    refine rcot_ hE hP (jlf.any) Tryd.func50 (rfl) ?_
    refine GT_ hE (rfl) ?_
    refine GT_ hE (rfl) ?_
    refine rct_ hE hP ((rjoin_fc L (by omega) (by omega)).any) Tryd.func51 (rfl) ?_ (hm := by exact ma2_) (hnr := by exact nrt2_) (had := by exact adt2_)
    refine GT_ hE (rfl) ?_
    refine G_ 2 hE ?_
    refine GT_ hE (rfl) ?_
    refine GT_ hE (rfl) ?_
    refine GT_ hE (rfl) ?_
    simp only [beq_self_eq_true, decide_true]
    refine G_ 2 hE ?_
    refine GT_ hE (rfl) ?_
    refine GT_ hE (rfl) ?_
    refine GT_ hE (rfl) ?_
    refine GT_ hE (rfl) ?_
    refine G_ 200 hE ?_
    first | refine rz ?_ | refine ZD_ ?_
    refine A_ ?_
    exact ret_
  · have hjL : j < L.length := hk
    have hfa := fnd_at kind L hjL
    obtain ⟨a, ha⟩ : ∃ a, a = L.getD j (0, []) := ⟨_, rfl⟩
    have hf0 : fS L j 0 = .int .i64 a.1 := by rw [ha]; rfl
    have hf1 : fS L j 1 = .str a.2 := by rw [ha]; rfl
    rw [← ha] at hfa
    rw [show ((j + 1 : Nat) : Int) - 1 = (j : Int) by omega]
    by_cases hkd : a.1 = kind
    · rw [if_pos hkd] at hfa
      refine A_ ?_
      rw [← ha]
      refine C_ hE (fun hc3 => ?_) (fun hc3 => ?_) <;> (try (exfalso; omega))
      refine A_ ?_
      rw [← ha]
      refine lq_n j ?_ (by omega) (by omega)
      rw [hfa]
      exact wk_ hrc
    · rw [if_neg hkd] at hfa
      refine A_ ?_
      rw [← ha]
      refine C_ hE (fun hc3 => ?_) (fun hc3 => ?_) <;> (try (exfalso; omega))
      refine A_ ?_
      refine lq_n j ?_ (by omega) (by omega)
      rw [hfa]
      exact wk_ hrc
end Go.Proofs.YtocfhkmdkdjinaaDoor
