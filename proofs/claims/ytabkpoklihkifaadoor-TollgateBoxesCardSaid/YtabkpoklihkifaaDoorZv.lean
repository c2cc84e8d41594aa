/- What the claim leans on, text Zv: Bl1. No condition beyond what each lemma states. -/
import Derived.Test.YtabkpoklihkifaaDoorZd
import Derived.Test.YtabkpoklihkifaaDoorZu
import Derived.Test.YtabkpoklihkifaaDoorZr
import Derived.Test.YtabkpoklihkifaaDoorZf

/- TollgateBoxes. Printed by wp.py. -/
namespace Go.Proofs.YtabkpoklihkifaaDoor
open Go Go.RowKit
set_option linter.unusedVariables false
set_option linter.unusedSimpArgs false
set_option maxRecDepth 100000
set_option maxHeartbeats 4000000
attribute [local irreducible] inR VC RG VCn sq inS lq nq jq Wk rq tmI tmS ofI byS tmE addE ofE byE sealB kxK T0 B0 padB foldB tagB turnB sha hidI cntB c12 padN

namespace UtollgateBoxes_fc
theorem U : type_of% (@drop_rep UInt8) ∧ type_of% (@drop_rep D) ∧ type_of% (@List.take_zero UInt8) ∧ type_of% (@List.take_zero D) ∧ type_of% (@List.length_set D) := ⟨(@drop_rep UInt8), (@drop_rep D), (@List.take_zero UInt8), (@List.take_zero D), (@List.length_set D)⟩
end UtollgateBoxes_fc
open UtollgateBoxes_fc
theorem tollgateBoxes_fc (key non l : List UInt8) (hk : key.length = 16) (hn : non.length = 12) : FC Tryd.prog GS 3 [.aggb key, .aggb non, .rob l] (.bool true) none := by
  refine fi_ 125 [6] ti_eq gpS Tryd.func3 (fun C hE hm hP hrc hrn => ?_)
  have eb := (bnew_fc key hk).any (G := GS)
  have en := (gnew_fc key hk).any (G := GS)
  have es := fun b hb => (bseal_fc T0 B0 (kxK T0 key) b hb).any (G := GS)
  have hh := sealB_len T0 (kxK T0 key) (List.replicate 16 0)
  unfold boxD at en
  unfold keyD at eb es
  obtain ⟨P, hP0⟩ : ∃ P, P = List.take (min l.length 100) l := ⟨_, rfl⟩
  have hPl : P.length ≤ 100 := by rw [hP0, List.length_take]; omega
  have ex := (gseal_fc T0 B0 (kxK T0 key) (sealB T0 (kxK T0 key) (List.replicate 16 0)) non P [98, 101, 115, 105, 100, 101] hh hn (by omega) (by decide)).any (G := GS)
  have fst := stands_fc
  rw [turn_hid] at ex
  unfold tagB at ex
  rw [hidI_len, show ([98, 101, 115, 105, 100, 101] : List UInt8).length = 6 from rfl] at ex
  generalize kxK T0 key = K at *
  generalize T0 = T at *
  generalize B0 = B at *
  refine A_ ?_
  rw [show (min (l.length : Int) 100).toNat = min l.length 100 by omega, ← hP0, hk, hn]
  clear hP0
  refine wv_ (kgivep 3 3 rfl rfl rfl (by rw [hk]; rfl)) ?_
  first | refine O_ ?_ | refine OD_ hm ?_
  refine RSL_ (m := 16) (k := 0) (l := key) (l' := key) hE (by rw [List.drop_zero, List.take_of_length_le (by omega)]) ?_ (by omega)
  refine rc_ hE hP (eb) Tryd.func4 ?_
  refine G_ 200 hE ?_
  first | refine rz ?_ | refine ZD_ ?_
  refine A_ ?_
  first | refine O_ ?_ | refine OD_ hm ?_
  refine RSL_ (m := 16) (k := 0) (l := key) (l' := key) hE (by rw [List.drop_zero, List.take_of_length_le (by omega)]) ?_ (by omega)
  refine rc_ hE hP (en) Tryd.func5 ?_
  refine G_ 200 hE ?_
  first | refine rz ?_ | refine ZD_ ?_
  refine A_ ?_
  first | refine O_ ?_ | refine OD_ hm ?_
  refine rc_ hE hP (fst) Tryd.func6 ?_
  refine G_ 200 hE ?_
  first | refine rz ?_ | refine ZD_ ?_
  refine A_ ?_
  rw [c12_def]
  refine VC.weak ?_ (kniln 12 712 1 (c := .bytes []) rfl rfl rfl)
  refine vl (fun i : Nat => ⟨[(2, .rob P), (4, .ptr 4 1 0), (7, .rpf 0 0 513 1 (keyF T B K)), (9, .rpf 0 0 17 1 (boxF T B K (sealB T K (List.replicate 16 0)))), (11, .ptr 11 1 0), (12, .sl 712 (1 + i) 0 i), (13, .ptr 13 1 0), (14, .int .i64 i)], [(4, ⟨⟨1, 1, 12⟩, some (.bytes non)⟩), (11, ⟨⟨1, 1, 16⟩, some (.bytes (cI non i))⟩), (13, ⟨⟨1, 1, 16⟩, some (.bytes (pI T K non i))⟩), (712, ⟨⟨1 + i, 1, i⟩, some (.bytes (hidI (padN T K non) P i))⟩)], []⟩) (fun i => i ≤ P.length) (fun i => P.length - i) 0 ?_ (Nat.zero_le _) (fun i hi => ?_)
  · rw [show cI non 0 = c12 non from if_pos rfl, show pI T K non 0 = List.replicate 16 0 from if_pos rfl, show hidI (padN T K non) P 0 = [] from List.eq_nil_of_length_eq_zero (hidI_len _ _ _)]
    exact wk_ hrc
  have hcl := cI_len hn i
  have hpl := pI_len T K non i
  have hhl := hidI_len (padN T K non) P i
  by_cases hin : i < P.length
  · have e16 : ((i : Int) % 16).toNat = i % 16 := by omega
    repeat' (first | refine A1_ ?_ | refine C_ hE (fun hc => ?_) (fun hc => ?_) <;> (try (exfalso; omega)))
    · rw [show (2 : Int) + (i : Int) / 16 = ((2 + i / 16 : Nat) : Int) by omega, cI_set non i (by omega)]
      have hcl1 := cI_len hn (i + 1)
      have es1 := es (cI non (i + 1)) hcl1
      rw [pI_set hn i (by omega)] at es1
      have hpl1 := pI_len T K non (i + 1)
      first | refine O_ ?_ | refine OD_ hm ?_
      refine G_ 2 hE ?_
      rw [show List.take 16 (cI non (i + 1)) = cI non (i + 1) from List.take_of_length_le (by omega)]
      refine rc_ hE hP (es1) Tryd.func7 ?_
      refine G_ 200 hE ?_
      first | refine rz ?_ | refine ZD_ ?_
      rw [ap_drop (hpl1.trans hpl.symm)]
      refine A_ ?_
      rw [e16, hid1_at, show List.take i (hidI (padN T K non) P i) = hidI (padN T K non) P i from List.take_of_length_le (by omega), show List.take 1 [hid1 (padN T K non) P i] = [hid1 (padN T K non) P i] from rfl, hidI_s, hidI_len, Nat.min_self]
      refine lq_n (i + 1) ?_ (by omega) (by omega)
      exact wk_ hrc
    · rw [← cI_s non i (by omega), ← pI_s T K non i (by omega), e16, hid1_at, show List.take i (hidI (padN T K non) P i) = hidI (padN T K non) P i from List.take_of_length_le (by omega), show List.take 1 [hid1 (padN T K non) P i] = [hid1 (padN T K non) P i] from rfl, hidI_s, hidI_len, Nat.min_self]
      refine lq_n (i + 1) ?_ (by omega) (by omega)
      exact wk_ hrc
  · obtain rfl : i = P.length := by omega
    repeat' (first | refine A1_ ?_ | refine C_ hE (fun hc => ?_) (fun hc => ?_) <;> (try (exfalso; omega)))
    rw [cnt_eq P.length hPl]
    have es0 := es (List.replicate 16 0) rfl
    have hcl : (cntB 6 P.length).length = 16 := by unfold cntB; exact byE_len _
    have ef := (fold_fc (sealB T K (List.replicate 16 0)) [[98, 101, 115, 105, 100, 101], hidI (padN T K non) P P.length, cntB 6 P.length] hh (fun i => by
      match i with
      | 0 => exact (show 6 ≤ 1000000 by decide)
      | 1 => exact (show (hidI (padN T K non) P P.length).length ≤ 1000000 by omega)
      | 2 => exact Nat.le_trans (Nat.le_of_eq hcl) (by decide)
      | n + 3 => exact Nat.zero_le _) (show 3 ≤ 1000000 by decide)).any (G := GS)
    have hfl := foldB_len (sealB T K (List.replicate 16 0)) [[98, 101, 115, 105, 100, 101], hidI (padN T K non) P P.length, cntB 6 P.length]
    generalize foldB (sealB T K (List.replicate 16 0)) [[98, 101, 115, 105, 100, 101], hidI (padN T K non) P P.length, cntB 6 P.length] = t at *
    generalize hidI (padN T K non) P P.length = u at *
    generalize cntB 6 P.length = c at *
    first | refine O_ ?_ | refine OD_ hm ?_
    refine G_ 2 hE ?_
    refine rc_ hE hP (es0) Tryd.func7 ?_
    refine G_ 4 hE ?_
    refine rc_ hE hP (ef) Tryd.func8 ?_
    refine G_ 200 hE ?_
    first | refine rz ?_ | refine ZD_ ?_
    rw [ap_drop (l := List.replicate 16 0) hfl]
    refine A_ ?_
    rw [cI_1 hn]
    have hcl1 := ctr_len hn 1
    have es1 := es (ctr non 1) hcl1
    rw [padB_1] at es1
    have hpl1 : (padB T K non 1).length = 16 := by unfold padB; exact sealB_len _ _ _
    generalize padB T K non 1 = p at *
    first | refine O_ ?_ | refine OD_ hm ?_
    refine G_ 2 hE ?_
    rw [show List.take 16 (ctr non 1) = ctr non 1 from List.take_of_length_le (by omega)]
    refine rc_ hE hP (es1) Tryd.func7 ?_
    refine G_ 200 hE ?_
    first | refine rz ?_ | refine ZD_ ?_
    rw [ap_drop (hpl1.trans hpl.symm)]
    refine A_ ?_
    refine vl (fun i : Nat => ⟨[(2, .rob P), (4, .ptr 4 1 0), (9, .rpf 0 0 17 1 (boxF T B K (sealB T K (List.replicate 16 0)))), (12, .sl 712 (1 + P.length + i) 0 (P.length + i)), (13, .ptr 13 1 0), (15, .sl 76 1 0 6), (17, .ptr 17 1 0), (18, .int .i64 i)], [(4, ⟨⟨1, 1, 12⟩, some (.bytes non)⟩), (13, ⟨⟨1, 1, 16⟩, some (.bytes p)⟩), (17, ⟨⟨1, 1, 16⟩, some (.bytes t)⟩), (76, ⟨⟨1, 1, 6⟩, some (.bytes [98, 101, 115, 105, 100, 101])⟩), (712, ⟨⟨1 + P.length + i, 1, P.length + i⟩, some (.bytes (u ++ xI t p i))⟩)], []⟩) (fun i => i ≤ 16) (fun i => 16 - i) 0 ?_ (Nat.zero_le _) (fun i hi => ?_)
    · rw [show xI t p 0 = [] from rfl, List.append_nil]
      exact wk_ hrc
    have hxl := xI_len t p i
    by_cases hi16 : i < 16
    · have hul : (u ++ xI t p i).length = P.length + i := by rw [List.length_append]; omega
      repeat' (first | refine A1_ ?_ | refine C_ hE (fun hc => ?_) (fun hc => ?_) <;> (try (exfalso; omega)))
      rw [show List.take (P.length + i) (u ++ xI t p i) = u ++ xI t p i from List.take_of_length_le (by omega), show List.take 1 [gb t i ^^^ gb p i] = [gb t i ^^^ gb p i] from rfl, List.append_assoc, xI_s, show min (P.length + i) (u.length + (xI t p i).length) + 1 = P.length + i + 1 by omega]
      refine lq_n (i + 1) ?_ (by omega) (by omega)
      exact wk_ hrc
    · obtain rfl : i = 16 := by omega
      rw [xI_16]
      have hxl := xorB_len t p
      generalize xorB t p = x at *
      have hul : (u ++ x).length = P.length + 16 := by rw [List.length_append]; omega
      repeat' (first | refine A1_ ?_ | refine C_ hE (fun hc => ?_) (fun hc => ?_) <;> (try (exfalso; omega)))
      first | refine O_ ?_ | refine OD_ hm ?_
      refine G_ 4 hE ?_
      rw [show List.take 12 non = non from List.take_of_length_le (by omega)]
      refine rc_ hE hP (ex) Tryd.func9 ?_
      refine G_ 3 hE ?_
      rw [show List.take (P.length + 16) (u ++ x) = u ++ x from List.take_of_length_le (by omega), show List.take (u.length + x.length) (u ++ x) = u ++ x from List.take_of_length_le (by rw [List.length_append]; omega)]
      refine G_ 200 hE ?_
      first | refine rz ?_ | refine ZD_ ?_
      refine A_ ?_
      exact ret_
end Go.Proofs.YtabkpoklihkifaaDoor
