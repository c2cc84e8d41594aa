/- What the claim leans on, text Zqd: Md7. No condition beyond what each lemma states. -/
import Derived.Test.YtkokcibnkcmcjaaDoorZd
import Derived.Test.YtkokcibnkcmcjaaDoorZt
import Derived.Test.YtkokcibnkcmcjaaDoorZp
import Derived.Test.YtkokcibnkcmcjaaDoorZqc

/- OldMacs and OldKeys return true. Printed by wp.py. -/
namespace Go.Proofs.YtkokcibnkcmcjaaDoor
open Go Go.RowKit
set_option linter.unusedVariables false
set_option linter.unusedSimpArgs false
set_option maxRecDepth 100000
set_option maxHeartbeats 4000000
attribute [local irreducible] inR VC RG VCn sq inS lq nq jq Wk
attribute [local irreducible] md hmM
attribute [local simp] md_len hmM_len
theorem oMac1_fc (k p : List UInt8) (hk : k.length ≤ 10000000) (hb : p.length ≤ 10000000000) : FC Tryd.prog GO 37 [.rob k, .rof 1 [p].length (fun i _ => .rob ([p].getD i []))] (.aggb (hmM k p)) none := by
  have h := oMac_fc k [p] hk (by simp) (by simpa using hb)
  rw [show [p].flatten = p by simp] at h
  exact h

namespace UoldMacs_fc
theorem U : type_of% @md_take ∧ type_of% @md_len ∧ type_of% (@drop_rep UInt8) ∧ type_of% (@drop_rep D) ∧ type_of% (@List.take_zero UInt8) ∧ type_of% (@List.take_zero D) ∧ type_of% @hmM_len ∧ type_of% @hmM_take := ⟨@md_take, @md_len, (@drop_rep UInt8), (@drop_rep D), (@List.take_zero UInt8), (@List.take_zero D), @hmM_len, @hmM_take⟩
end UoldMacs_fc
open UoldMacs_fc
theorem oldMacs_fc (lk : List UInt8) (ls : List (List UInt8)) : FC Tryd.prog GO 18 [.rob lk, .rof 1 ls.length (fun i _ => .rob (ls.getD i []))] (.bool true) none := by
  refine fi_ 38 [4] ti_eq gpO Tryd.func18 (fun C hE hm hP hrc hrn => ?_)
  have hfl := fewL_flat ls 8 200
  have hfn := fewL_len ls 8 200
  have few := (FewE_fc ls 8 200 (by decide) (by decide)).any (G := GO)
  have all := (AllE_fc (fewL ls 8 200) (by omega) (by omega)).any (G := GO)
  refine A_ ?_
  obtain ⟨k, hk⟩ : ∃ k, k = List.take (min (lk.length : Int) 200).toNat lk := ⟨_, rfl⟩
  have hk2 : k.length ≤ 200 := by rw [hk, List.length_take]; omega
  have hkl : min (min (lk.length : Int) 200).toNat lk.length = k.length := by rw [hk, List.length_take]
  rw [← hk, hkl, List.take_length]
  clear hk hkl
  have mof := oMac_fc k (fewL ls 8 200) (by omega) (by omega) (by omega)
  have rof := (roMac_fc k (fewL ls 8 200).flatten (by omega) (by omega)).any (G := GO)
  generalize fewL ls 8 200 = ps at *
  first | refine O_ ?_ | refine OD_ hm ?_
  refine G_ 200 hE ?_
  refine rc_ hE hP (few) Tryd.func21 ?_
  refine G_ 200 hE ?_
  first | refine rz ?_ | refine ZD_ ?_
  refine A_ ?_
  first | refine O_ ?_ | refine OD_ hm ?_
  refine G_ 200 hE ?_
  refine rc_ hE hP (mof) Tryd.func37 ?_
  refine G_ 200 hE ?_
  first | refine rz ?_ | refine ZD_ ?_
  refine A_ ?_
  first | refine O_ ?_ | refine OD_ hm ?_
  refine G_ 200 hE ?_
  refine rc_ hE hP (olds_fc) Tryd.func30 ?_
  refine G_ 1 hE ?_
  refine GT_ hE (rfl) ?_
  refine GT_ hE (rfl) ?_
  refine GT_ hE (rfl) ?_
  refine GT_ hE (rfl) ?_
  refine rct_ hE hP (all) Tryd.func25 (rfl) ?_
  refine rct_ hE hP (rof) Tryd.func40 (rfl) ?_
  refine GT_ hE (rfl) ?_
  refine G_ 200 hE ?_
  first | refine rz ?_ | refine ZD_ ?_
  refine A_ ?_
  exact ret_

theorem oldKeys_fc (lk : List UInt8) (q : Int) (lb : List UInt8) : FC Tryd.prog GO 19 [.rob lk, .int .i64 q, .rob lb] (.bool true) none := by
  refine fi_ 69 [6] ti_eq gpO Tryd.func19 (fun C hE hm hP hrc hrn => ?_)
  refine A_ ?_
  obtain ⟨k, hk⟩ : ∃ k, k = List.take (min (lk.length : Int) 150).toNat lk := ⟨_, rfl⟩
  have hk2 : k.length ≤ 150 := by rw [hk, List.length_take]; omega
  have hkl : min (min (lk.length : Int) 150).toNat lk.length = k.length := by rw [hk, List.length_take]
  rw [← hk, hkl]
  clear hk hkl
  obtain ⟨b, hb⟩ : ∃ b, b = List.take (min (lb.length : Int) 150).toNat lb := ⟨_, rfl⟩
  have hb2 : b.length ≤ 150 := by rw [hb, List.length_take]; omega
  rw [← hb]
  clear hb
  have m1 := oMac1_fc k b (by omega) (by omega)
  by_cases h64 : 64 < k.length
  · have m2 := oMac1_fc (md k) b (by rw [md_len]; decide) (by omega)
    rw [hmM_md k b h64] at m2
    have hs := md_len k
    have hs2 := hmM_len k b
    have o1 := oOf1_fc k (by omega)
    generalize hmM k b = R at *
    repeat' (first | refine A1_ ?_ | refine C_ hE (fun hc => ?_) (fun hc => ?_) <;> (try (exfalso; omega)))
    first | refine O_ ?_ | refine OD_ hm ?_
    refine G_ 200 hE ?_
    refine rc_ hE hP (o1) Tryd.func29 ?_
    refine G_ 200 hE ?_
    first | refine rz ?_ | refine ZD_ ?_
    refine A_ ?_
    first | refine O_ ?_ | refine OD_ hm ?_
    refine G_ 200 hE ?_
    refine rc_ hE hP (olds_fc) Tryd.func30 ?_
    refine G_ 1 hE ?_
    refine GT_ hE (rfl) ?_
    refine GT_ hE (rfl) ?_
    refine GT_ hE (rfl) ?_
    refine rct_ hE hP (m1) Tryd.func37 (rfl) ?_
    refine GT_ hE (rfl) ?_
    refine GT_ hE (rfl) ?_
    refine GT_ hE (rfl) ?_
    refine rct_ hE hP (m2) Tryd.func37 (rfl) ?_
    refine G_ 200 hE ?_
    first | refine rz ?_ | refine ZD_ ?_
    refine A_ ?_
    exact ret_
  · have hw := wr64 q
    repeat' (first | refine A1_ ?_ | refine C_ hE (fun hc => ?_) (fun hc => ?_) <;> (try (exfalso; omega)))
    refine vl (fun i : Nat => ⟨[(0, .rob k), (1, .int .i64 q), (2, .rob b), (7, .sl 20 (2 + i) 0 (k ++ List.replicate i 0).length), (9, .int .i64 i)], [(20, ⟨⟨2 + i, 1, (k ++ List.replicate i 0).length⟩, some (.bytes (k ++ List.replicate i 0))⟩)], []⟩) (fun i => k.length + i ≤ 64) (fun i => 64 - i) 0 ?_ (by omega) (fun i hi => ?_)
    · rw [show k ++ List.replicate 0 0 = k by simp]
      exact wk_ hrc
    · have hl : (k ++ List.replicate i 0).length = k.length + i := by simp
      have m3 := oMac1_fc (k ++ List.replicate i 0) b (by omega) (by omega)
      rw [hmM_pad k b i (by omega)] at m3
      have hs2 := hmM_len k b
      generalize hmM k b = R at *
      have hsn : k ++ List.replicate (i + 1) 0 = (k ++ List.replicate i 0) ++ [0] := by rw [List.replicate_succ', List.append_assoc]
      obtain ⟨E, hE1⟩ : ∃ E, E = k ++ List.replicate i 0 := ⟨_, rfl⟩
      rw [← hE1] at hl m3 hsn ⊢
      clear hE1
      repeat' (first | refine A1_ ?_ | refine C_ hE (fun hc => ?_) (fun hc => ?_) <;> (try (exfalso; omega)))
      · refine lq_n (i + 1) ?_ (by omega) (by omega)
        rw [hsn, List.length_append]
        exact wk_ hrc
      · first | refine O_ ?_ | refine OD_ hm ?_
        refine G_ 200 hE ?_
        refine rc_ hE hP (olds_fc) Tryd.func30 ?_
        refine G_ 1 hE ?_
        refine GT_ hE (rfl) ?_
        refine GT_ hE (rfl) ?_
        refine GT_ hE (rfl) ?_
        refine rct_ hE hP (m3) Tryd.func37 (rfl) ?_
        refine GT_ hE (rfl) ?_
        refine GT_ hE (rfl) ?_
        refine GT_ hE (rfl) ?_
        refine rct_ hE hP (m1) Tryd.func37 (rfl) ?_
        refine G_ 200 hE ?_
        first | refine rz ?_ | refine ZD_ ?_
        refine A_ ?_
        exact ret_
end Go.Proofs.YtkokcibnkcmcjaaDoor
