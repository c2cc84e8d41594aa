/- What the claim leans on, text Zqi: Md11. No condition beyond what each lemma states. -/
import Derived.Test.YtkokcibnkcmcjaaDoorZd
import Derived.Test.YtkokcibnkcmcjaaDoorZt
import Derived.Test.YtkokcibnkcmcjaaDoorZqc
import Derived.Test.YtkokcibnkcmcjaaDoorZg

/- TollgateMarks returns true. Printed by wp.py. -/
namespace Go.Proofs.YtkokcibnkcmcjaaDoor
open Go Go.RowKit
set_option linter.unusedVariables false
set_option linter.unusedSimpArgs false
set_option maxRecDepth 100000
set_option maxHeartbeats 4000000
attribute [local irreducible] inR VC RG VCn sq inS lq nq jq Wk
attribute [local irreducible] md hmM sha hm padK stH stW abs8 kfit kfitM
attribute [local simp] md_len hmM_len sha_length stC_len hm_length

theorem stands_abc (S : List UInt8) (hS : S = sha [97, 98, 99]) : FC Tryd.prog GS 22 [.rof 1 ([[97, 98, 99]] : List (List UInt8)).length (fun i _ => .rob (([[97, 98, 99]] : List (List UInt8)).getD i []))] (.aggb S) none := by
  subst hS
  exact Of_fc [[97, 98, 99]] (by decide) (by decide)
theorem OfC_fc (p : List UInt8) (ps : List (List UInt8)) (hn : ps.length ≤ 100000) (hb : p.length + ps.flatten.length ≤ 100000000000) : FC Tryd.prog GS 22 [.rof 1 (p :: ps).length (fun i _ => .rob ((p :: ps).getD i []))] (.aggb (sha (p ++ ps.flatten))) none := by
  have h := Of_fc (p :: ps) (by simp; omega) (by simpa using hb)
  rw [show (p :: ps).flatten = p ++ ps.flatten by simp] at h
  exact h

namespace Ustands_fc
theorem U : type_of% @md_take ∧ type_of% @md_len ∧ type_of% (@drop_rep UInt8) ∧ type_of% (@drop_rep D) ∧ type_of% (@List.take_zero UInt8) ∧ type_of% (@List.take_zero D) ∧ type_of% @hmM_len ∧ type_of% @hmM_take ∧ type_of% @sha_take ∧ type_of% @sha_length ∧ type_of% @stC_len ∧ type_of% @hm_length ∧ type_of% @hm_take := ⟨@md_take, @md_len, (@drop_rep UInt8), (@drop_rep D), (@List.take_zero UInt8), (@List.take_zero D), @hmM_len, @hmM_take, @sha_take, @sha_length, @stC_len, @hm_length, @hm_take⟩
end Ustands_fc
open Ustands_fc
theorem stands_fc  : FC Tryd.prog GS 38 [] (.bool true) none := by
  refine fi_ 14 [0] ti_eq gpS Tryd.func38 (fun C hE hm hP hrc hrn => ?_)
  obtain ⟨S, hS, a1, a2, a3, a4⟩ := abcS
  refine A_ ?_
  first | refine O_ ?_ | refine OD_ hm ?_
  refine G_ 200 hE ?_
  refine rc_ hE hP (stands_abc S hS) Tryd.func22 ?_
  clear hS
  refine G_ 200 hE ?_
  first | refine rz ?_ | refine ZD_ ?_
  rw [a4, drop_rep, List.append_nil]
  refine A_ ?_
  rw [a1, a3]
  exact ret_

theorem func1_fc (k : List UInt8) (x : UInt8) (hk : k.length ≤ 64) : FC Tryd.prog GE 35 [.rob k, .u8 x] (.ownb (padK k x)) none := by
  refine fi_ 28 [4] ti_eq gpE Tryd.func35 (fun C hE hm hP hrc hrn => ?_)
  refine A_ ?_
  refine VC.weak ?_ (kniln 5 960 1 (c := .bytes []) rfl rfl rfl)
  refine vl (fun i : Nat => ⟨[(0, .rob k), (1, .u8 x), (5, .sl 960 (1 + i) 0 ((padK k x).take i).length), (6, .int .i64 i)], [(960, ⟨⟨1 + i, 1, ((padK k x).take i).length⟩, some (.bytes ((padK k x).take i))⟩)], []⟩) (fun i => i ≤ 64) (fun i => 64 - i) 0 ?_ (Nat.zero_le _) (fun i hi => ?_)
  · exact wk_ hrc
  · have l1 := padK_tl k x i hk hi
    obtain ⟨E1, hE1⟩ : ∃ E, E = (padK k x).take i := ⟨_, rfl⟩
    rw [← hE1] at l1 ⊢
    repeat' (first | refine A1_ ?_ | refine C_ hE (fun hc => ?_) (fun hc => ?_) <;> (try (exfalso; omega)))
    · refine lq_n (i + 1) ?_ (by omega) (by omega)
      rw [padK_get k x i hk (by omega), if_pos (show i < k.length by omega), ← hE1, List.length_append, UInt8.xor_comm]
      exact wk_ hrc
    · refine lq_n (i + 1) ?_ (by omega) (by omega)
      rw [padK_get k x i hk (by omega), if_neg (show ¬i < k.length by omega), ← hE1, List.length_append, UInt8.zero_xor]
      exact wk_ hrc
    · obtain rfl : i = 64 := by omega
      have p1 : (padK k x).take 64 = padK k x := List.take_of_length_le (by rw [padK_len x hk]; decide)
      rw [p1] at hE1
      rw [← hE1]
      repeat' (first | refine A1_ ?_ | refine C_ hE (fun hc => ?_) (fun hc => ?_) <;> (try (exfalso; omega)))
      exact ret_

theorem tollgateMarks_fc (lk : List UInt8) (ls : List (List UInt8)) : FC Tryd.prog GA 9 [.rob lk, .rof 1 ls.length (fun i _ => .rob (ls.getD i []))] (.bool true) none := by
  refine fi_ 77 [4] ti_eq gpA Tryd.func9 (fun C hE hm hP hrc hrn => ?_)
  have hfl := fewL_flat ls 5 100
  have hfn := fewL_len ls 5 100
  have few := (FewE_fc ls 5 100 (by decide) (by decide)).any (G := GA)
  have all := (AllE_fc (fewL ls 5 100) (by omega) (by omega)).any (G := GA)
  refine A_ ?_
  obtain ⟨k, hk⟩ : ∃ k, k = List.take (min (lk.length : Int) 64).toNat lk := ⟨_, rfl⟩
  have hk2 : k.length ≤ 64 := by rw [hk, List.length_take]; omega
  rw [← hk]
  clear hk
  generalize fewL ls 5 100 = ps at *
  have hsc := rob_rsc ps
  have hp1 := padK_len 54 hk2
  have hp2 := padK_len 92 hk2
  have q1 := hm_def k k ps.flatten (by unfold kfit; rw [if_neg (by omega)])
  have q2 := hmM_def k k ps.flatten (by unfold kfitM; rw [if_neg (by omega)])
  have m1 := (mOf_fc k ps (by omega) (by omega) (by omega)).more GS_A
  have m2 := (oMac_fc k ps (by omega) (by omega) (by omega)).more GO_A
  have r1 := (rmOf_fc k ps.flatten (by omega) (by omega)).more GS_A
  have r2 := (roMac_fc k ps.flatten (by omega) (by omega)).any (G := GA)
  have o1 := (OfC_fc (padK k 54) ps (by omega) (by omega)).more GS_A
  have o2 := (oOfC_fc (padK k 54) ps (by omega) (by omega)).more GO_A
  have s1 := (Of2_fc (padK k 92) (sha (padK k 54 ++ ps.flatten)) (by rw [sha_length]; omega)).more GS_A
  have s2 := (oOf2_fc (padK k 92) (md (padK k 54 ++ ps.flatten)) (by rw [md_len]; omega)).more GO_A
  rw [← q1] at s1
  rw [← q2] at s2
  clear q1 q2
  have f1 := (func1_fc k 54 hk2).any (G := GA)
  have f2 := (func1_fc k 92 hk2).any (G := GA)
  first | refine O_ ?_ | refine OD_ hm ?_
  refine G_ 200 hE ?_
  refine rc_ hE hP (few) Tryd.func21 ?_
  refine G_ 200 hE ?_
  first | refine rz ?_ | refine ZD_ ?_
  refine A_ ?_
  first | refine O_ ?_ | refine OD_ hm ?_
  refine G_ 200 hE ?_
  refine rc_ hE hP (all) Tryd.func25 ?_
  refine G_ 200 hE ?_
  first | refine rz ?_ | refine ZD_ ?_
  refine A_ ?_
  first | refine O_ ?_ | refine OD_ hm ?_
  refine G_ 200 hE ?_
  refine rc_ hE hP (f1) Tryd.func35 ?_
  refine rg_w (sgb_ 23 23) ?_
  refine G_ 200 hE ?_
  first | refine rz ?_ | refine ZD_ ?_
  refine A_ ?_
  first | refine O_ ?_ | refine OD_ hm ?_
  refine G_ 200 hE ?_
  refine rc_ hE hP (f2) Tryd.func35 ?_
  refine G_ 200 hE ?_
  first | refine rz ?_ | refine ZD_ ?_
  refine A_ ?_
  have hsr := sc_rob ps ps.length 0
  first | refine O_ ?_ | refine OD_ hm ?_
  refine G_ 4 hE ?_
  rw [rob_cons, Nat.add_comm 1 ps.length]
  refine rc_ hE hP (o1) Tryd.func22 ?_
  refine G_ 200 hE ?_
  first | refine rz ?_ | refine ZD_ ?_
  refine A_ ?_
  first | refine O_ ?_ | refine OD_ hm ?_
  refine G_ 4 hE ?_
  rw [rob_cons]
  try rw [Nat.add_comm 1 ps.length]
  refine rc_ hE hP (o2) Tryd.func29 ?_
  refine G_ 200 hE ?_
  first | refine rz ?_ | refine ZD_ ?_
  refine A_ ?_
  first | refine O_ ?_ | refine OD_ hm ?_
  refine G_ 200 hE ?_
  refine rc_ hE hP (m1) Tryd.func36 ?_
  refine G_ 200 hE ?_
  refine rc_ hE hP (m2) Tryd.func37 ?_
  refine G_ 200 hE ?_
  first | refine rz ?_ | refine ZD_ ?_
  refine A_ ?_
  first | refine O_ ?_ | refine OD_ hm ?_
  refine G_ 200 hE ?_
  refine rc_ hE hP (stands_fc.more GS_A) Tryd.func38 ?_
  refine G_ 1 hE ?_
  refine GT_ hE (rfl) ?_
  refine GT_ hE (rfl) ?_
  refine GT_ hE (rfl) ?_
  refine GT_ hE (rfl) ?_
  refine rct_ hE hP (s1) Tryd.func22 (rfl) ?_
  refine GT_ hE (rfl) ?_
  refine G_ 2 hE ?_
  refine GT_ hE (rfl) ?_
  refine GT_ hE (rfl) ?_
  refine GT_ hE (rfl) ?_
  refine GT_ hE (rfl) ?_
  refine rct_ hE hP (s2) Tryd.func29 (rfl) ?_
  refine GT_ hE (rfl) ?_
  refine G_ 2 hE ?_
  refine GT_ hE (rfl) ?_
  refine GT_ hE (rfl) ?_
  refine GT_ hE (rfl) ?_
  refine GT_ hE (rfl) ?_
  refine GT_ hE (rfl) ?_
  refine rct_ hE hP (r1) Tryd.func39 (rfl) ?_
  refine GT_ hE (rfl) ?_
  refine G_ 2 hE ?_
  refine GT_ hE (rfl) ?_
  refine GT_ hE (rfl) ?_
  refine GT_ hE (rfl) ?_
  refine GT_ hE (rfl) ?_
  refine GT_ hE (rfl) ?_
  refine rct_ hE hP (r2) Tryd.func40 (rfl) ?_
  refine GT_ hE (rfl) ?_
  refine G_ 200 hE ?_
  first | refine rz ?_ | refine ZD_ ?_
  refine A_ ?_
  exact ret_
end Go.Proofs.YtkokcibnkcmcjaaDoor
