/- What the claim leans on, text Zqf: Md10. No condition beyond what each lemma states. -/
import Derived.Test.YtkokcibnkcmcjaaDoorZd
import Derived.Test.YtkokcibnkcmcjaaDoorZt
import Derived.Test.YtkokcibnkcmcjaaDoorZp
import Derived.Test.YtkokcibnkcmcjaaDoorZqe

/- OldHides returns true. Printed by wp.py. -/
namespace Go.Proofs.YtkokcibnkcmcjaaDoor
open Go Go.RowKit
set_option linter.unusedVariables false
set_option linter.unusedSimpArgs false
set_option maxRecDepth 100000
set_option maxHeartbeats 4000000
attribute [local irreducible] inR VC RG VCn sq inS lq nq jq Wk rq
attribute [local irreducible] md xor16 hidL shoL pad16
attribute [local simp] md_len

namespace UoldHides_fc
theorem U : type_of% @md_take ∧ type_of% @md_len ∧ type_of% (@drop_rep UInt8) ∧ type_of% (@drop_rep D) ∧ type_of% (@List.take_zero UInt8) ∧ type_of% (@List.take_zero D) ∧ type_of% @pad16_take := ⟨@md_take, @md_len, (@drop_rep UInt8), (@drop_rep D), (@List.take_zero UInt8), (@List.take_zero D), @pad16_take⟩
end UoldHides_fc
open UoldHides_fc
theorem oldHides_fc (l0 l1 l2 : List UInt8) : FC Tryd.prog GO 16 [.rob l0, .rob l1, .rob l2] (.bool true) none := by
  refine fi_ 119 [6] ti_eq gpO Tryd.func16 (fun C hE hm hP hrc hrn => ?_)
  refine A_ ?_
  obtain ⟨sec, hs⟩ : ∃ k, k = List.take (min (l0.length : Int) 100).toNat l0 := ⟨_, rfl⟩
  have hs2 : sec.length ≤ 100 := by rw [hs, List.length_take]; omega
  rw [← hs]
  clear hs
  obtain ⟨beg, hb⟩ : ∃ k, k = List.take (min (l1.length : Int) 100).toNat l1 := ⟨_, rfl⟩
  have hb2 : beg.length ≤ 100 := by rw [hb, List.length_take]; omega
  rw [← hb]
  clear hb
  obtain ⟨b, hk⟩ : ∃ k, k = List.take (min (l2.length : Int) 200).toNat l2 := ⟨_, rfl⟩
  have hk2 : b.length ≤ 200 := by rw [hk, List.length_take]; omega
  have hkl : min (min (l2.length : Int) 200).toNat l2.length = b.length := by rw [hk, List.length_take]
  rw [← hk, hkl, List.take_length]
  clear hk hkl
  obtain ⟨hp1, hp2, hp3⟩ := pad16_len b
  have c1 := Hide_fc sec beg b (by omega) (by omega) (by omega)
  have c2 := Show_fc sec beg b (by omega) (by omega) (by omega)
  have r1 := (rHide_fc sec beg b (by omega) (by omega) (by omega)).any (G := GO)
  have r2 := (rShow_fc sec beg b (by omega) (by omega) (by omega)).any (G := GO)
  have hl := hid_len sec beg b
  have c3 := Show_fc sec beg (hidL sec beg (pad16 b) (List.range (pcN (pad16 b).length 16))).2 (by omega) (by omega) (by omega)
  rw [if_pos (by rw [hl]; exact hp1), hid_back sec beg b] at c3
  generalize (if b.length % 16 = 0 then (shoL sec beg b (List.range (pcN b.length 16))).2 else []) = S2 at *
  generalize (hidL sec beg (pad16 b) (List.range (pcN (pad16 b).length 16))).2 = H at *
  first | refine O_ ?_ | refine OD_ hm ?_
  refine G_ 200 hE ?_
  refine rc_ hE hP (c1) Tryd.func56 ?_
  refine G_ 200 hE ?_
  first | refine rz ?_ | refine ZD_ ?_
  refine A_ ?_
  first | refine O_ ?_ | refine OD_ hm ?_
  refine G_ 200 hE ?_
  refine rc_ hE hP (c2) Tryd.func57 ?_
  refine G_ 200 hE ?_
  first | refine rz ?_ | refine ZD_ ?_
  refine A_ ?_
  first | refine O_ ?_ | refine OD_ hm ?_
  refine G_ 200 hE ?_
  refine rc_ hE hP (olds_fc) Tryd.func30 ?_
  refine G_ 2 hE ?_
  refine GT_ hE (rfl) ?_
  refine GT_ hE (rfl) ?_
  refine GT_ hE (rfl) ?_
  refine GT_ hE (rfl) ?_
  refine GT_ hE (rfl) ?_
  refine GT_ hE (rfl) ?_
  refine GT_ hE (rfl) ?_
  refine rct_ hE hP (r1) Tryd.func58 (rfl) ?_
  refine GT_ hE (rfl) ?_
  refine G_ 2 hE ?_
  refine GT_ hE (rfl) ?_
  refine GT_ hE (rfl) ?_
  refine GT_ hE (rfl) ?_
  refine GT_ hE (rfl) ?_
  refine GT_ hE (rfl) ?_
  refine GT_ hE (rfl) ?_
  refine GT_ hE (rfl) ?_
  refine rct_ hE hP (r2) Tryd.func58 (rfl) ?_
  refine GT_ hE (rfl) ?_
  refine G_ 200 hE ?_
  first | refine rz ?_ | refine ZD_ ?_
  repeat' (first | refine A1_ ?_ | refine C_ hE (fun hc => ?_) (fun hc => ?_) <;> (try (exfalso; omega)))
  first | refine O_ ?_ | refine OD_ hm ?_
  refine G_ 200 hE ?_
  refine rc_ hE hP (c3) Tryd.func57 ?_
  refine G_ 200 hE ?_
  first | refine rz ?_ | refine ZD_ ?_
  have hpt := pad16_take b
  have hpz := pad16_z b
  repeat' (first | refine A1_ ?_ | refine C_ hE (fun hc => ?_) (fun hc => ?_) <;> (try (exfalso; omega)))
  clear c1 c2 c3 r1 r2 hpt
  generalize pad16 b = P at *
  refine vl (fun i : Nat => ⟨[(2, .sl 22 2 0 b.length), (7, .str b), (10, .sl 66 1 0 P.length), (11, .int .i64 i)], [(22, ⟨⟨2, 1, b.length⟩, some (.bytes b)⟩), (66, ⟨⟨1, 1, P.length⟩, some (.bytes P)⟩)], []⟩) (fun i => b.length ≤ i ∧ i ≤ P.length) (fun i => P.length - i) b.length ?_ ⟨by omega, by omega⟩ (fun i hi => ?_)
  · exact wk_ hrc
  · have hz := hpz i hi.1
    by_cases hlt : i < P.length
    · refine A_ ?_
      refine C_ hE (fun hc2 => ?_) (fun hc2 => ?_) <;> (try (exfalso; omega))
      refine A_ ?_
      rw [hz]
      repeat' (first | refine A1_ ?_ | refine C_ hE (fun hc => ?_) (fun hc => ?_) <;> (try (exfalso; omega)))
      refine lq_n (i + 1) ?_ ⟨by omega, by omega⟩ (by omega)
      exact wk_ hrc
    · repeat' (first | refine A1_ ?_ | refine C_ hE (fun hc => ?_) (fun hc => ?_) <;> (try (exfalso; omega)))
      exact ret_
end Go.Proofs.YtkokcibnkcmcjaaDoor
