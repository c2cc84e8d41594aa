/- What the claim leans on, text Zf: Sh1, Sh2, Sh3, Sh4, Std. No condition beyond what each lemma states. -/
import Derived.Test.YtabkpoklihkifaaDoorZd
import Derived.Test.YtabkpoklihkifaaDoorZt
import Derived.Test.YtabkpoklihkifaaDoorZe

/- The functions of hash: New, Size, Copy, press, Put, Sum, Of. Printed by wp.py. -/
namespace Go.Proofs.YtabkpoklihkifaaDoor
open Go Go.RowKit
set_option linter.unusedVariables false
set_option linter.unusedSimpArgs false
set_option maxRecDepth 100000
set_option maxHeartbeats 4000000
attribute [local irreducible] inR VC RG VCn sq inS lq nq jq Wk

theorem stC0 : stC [] = [.u32 1779033703, .u32 3144134277, .u32 1013904242, .u32 2773480762, .u32 1359893119, .u32 2600822924, .u32 528734635, .u32 1541459225, .ownb [], .int .i64 0] := rfl
theorem ds0 : List.map (fun i => D.u32 (startL.getD i 0)) (List.range 8) = [.u32 1779033703, .u32 3144134277, .u32 1013904242, .u32 2773480762, .u32 1359893119, .u32 2600822924, .u32 528734635, .u32 1541459225] := rfl

open Uno
theorem New_fc  : FC Tryd.prog GS 22 [] (.ownp (stC [])) none := by
  rw [stC0]
  refine fi_ 4 [0] ti_eq gpS Tryd.func22 (fun C hE hm hP hrc hrn => ?_)
  refine A_ ?_
  rw [ds0]
  exact ret_
end Go.Proofs.YtabkpoklihkifaaDoor

/- hash's Put. Printed by wp.py. -/
namespace Go.Proofs.YtabkpoklihkifaaDoor
open Go Go.RowKit
set_option linter.unusedVariables false
set_option linter.unusedSimpArgs false
set_option maxRecDepth 100000
set_option maxHeartbeats 4000000
attribute [local irreducible] inR VC RG VCn sq inS lq nq jq Wk

open Uno
theorem Put_fc (l : List UInt8) (ps : List (List UInt8)) (hn : ps.length ≤ 1000000) (hb : l.length + ps.flatten.length ≤ 100000000000) : FC Tryd.prog GS 23 [.ownp (stC l), .rof 1 ps.length (fun i _ => .rob (ps.getD i []))] (.tup []) (some (stC (l ++ ps.flatten))) := by
  unfold stC
  refine fo_ 60 [] ti_eq gpS Tryd.func23 (fun C hE hm hP hr9 hrn => ?_)
  refine A_ ?_
  refine vl (fun k : Nat => ⟨[(0, .ptr 900 1 0), (8, .rof 1 ps.length (fun i _ => .rob (ps.getD i []))), (9, .int .i64 ps.length), (10, .int .i64 k)], [(900, ⟨⟨1, 1, 10⟩, some (.cells (stC (l ++ (ps.take k).flatten)))⟩)], []⟩) (fun k => k ≤ ps.length) (fun k => ps.length - k) 0 ?_ (Nat.zero_le _) (fun k hk => ?_)
  · have e : l ++ (List.take 0 ps).flatten = l := by simp
    rw [e]
    unfold stC
    exact wk9_ hr9
  · have hL1 := flat_le ps k
    obtain ⟨L, hL⟩ : ∃ L, L = l ++ (ps.take k).flatten := ⟨_, rfl⟩
    have hL2 : L.length = l.length + (ps.take k).flatten.length := by rw [hL, List.length_append]
    rw [← hL]
    rw [show stC L = [.u32 (stH L).a, .u32 (stH L).b, .u32 (stH L).c, .u32 (stH L).d, .u32 (stH L).e, .u32 (stH L).f, .u32 (stH L).g, .u32 (stH L).k, .ownb (stW L), .int .i64 L.length] from rfl]
    refine wv_ (so_ 900 8 950 0) ?_
    have hw := stW_length L
    by_cases hkl : k < ps.length
    · have hf := flat_succ ps hkl
      have hf2 := flat_le ps (k + 1)
      rw [hf, List.length_append] at hf2
      repeat' (first | refine A1_ ?_ | refine C_ hE (fun hc => ?_) (fun hc => ?_) <;> (try (exfalso; omega)))
      obtain ⟨m, hmd⟩ : ∃ m, m = stW L ++ ps.getD k [] := ⟨_, rfl⟩
      have hml : m.length = (stW L).length + (ps.getD k []).length := by rw [hmd, List.length_append]
      rw [← hmd, ← hml]
      refine vl (fun j : Nat => ⟨[(0, .ptr 900 1 0), (8, .rof 1 ps.length (fun i _ => .rob (ps.getD i []))), (9, .int .i64 ps.length), (10, .int .i64 k)], [(900, ⟨⟨1, 1, 10⟩, some (.cells [.u32 (abs8 (stH L) m j).a, .u32 (abs8 (stH L) m j).b, .u32 (abs8 (stH L) m j).c, .u32 (abs8 (stH L) m j).d, .u32 (abs8 (stH L) m j).e, .u32 (abs8 (stH L) m j).f, .u32 (abs8 (stH L) m j).g, .u32 (abs8 (stH L) m j).k, .sl 950 2 (64 * j) (m.length - 64 * j), .int .i64 ((L.length : Int) + ((ps.getD k []).length : Int))])⟩), (950, ⟨⟨2, 1, m.length⟩, some (.bytes m)⟩)], []⟩) (fun j => 64 * j ≤ m.length) (fun j => m.length - 64 * j) 0 ?_ (Nat.zero_le _) (fun j hj => ?_)
      · exact wk9_ hr9
      · repeat' (first | refine A1_ ?_ | refine C_ hE (fun hc => ?_) (fun hc => ?_) <;> (try (exfalso; omega)))
        · first | refine O_ ?_ | refine OD_ hm ?_
          refine G_ 200 hE ?_
          refine rc_ hE hP (press_at (stH L) m j (by omega)) Tryd.func29 ?_
          refine G_ 200 hE ?_
          first | refine rz ?_ | refine ZD_ ?_
          refine A_ ?_
          rw [show 64 * j + 64 = 64 * (j + 1) by omega, show m.length - 64 * j - 64 = m.length - 64 * (j + 1) by omega]
          refine lq_n (j + 1) ?_ (by omega) (by omega)
          exact wk9_ hr9
        · refine lq_n (k + 1) ?_ (by omega) (by omega)
          rw [hf, ← List.append_assoc, ← hL]
          refine Wk.trans (sc_ 900 8 950 (hcs := by exact ((stC_step L (ps.getD k []) m hmd j hj (by omega)).symm))) ?_
          unfold stC
          exact wk9_ hr9
    · have hkk : k = ps.length := by omega
      subst hkk
      rw [List.take_length] at hL
      rw [← hL]
      repeat' (first | refine A1_ ?_ | refine C_ hE (fun hc => ?_) (fun hc => ?_) <;> (try (exfalso; omega)))
      exact retr_
end Go.Proofs.YtabkpoklihkifaaDoor

/- hash's Sum. Printed by wp.py. -/
namespace Go.Proofs.YtabkpoklihkifaaDoor
open Go Go.RowKit
set_option linter.unusedVariables false
set_option linter.unusedSimpArgs false
set_option maxRecDepth 100000
set_option maxHeartbeats 4000000
attribute [local irreducible] inR VC RG VCn sq inS lq nq jq Wk

open Uno
theorem Sum_fc (l : List UInt8) (hb : l.length ≤ 100000000000) : FC Tryd.prog GS 24 [.ownp (stC l)] (.aggb (sha l)) (some (stC l)) := by
  unfold stC
  refine foc_ 93 ti_eq gpS Tryd.func24 (fun C hE hm hP hr9 hrn => ?_)
  have hw := stW_length l
  have hpz := padZ_lt l.length
  have hwr := wrap_inR .u64 (l.length : Int) ((inR_u64 _).2 ⟨by omega, by omega⟩)
  refine wv_ (so_ 900 8 950 0) ?_
  refine A_ ?_
  refine vl (fun z : Nat => ⟨[(0, .ptr 900 1 0), (2, .ptr 2 1 0), (3, .sl 13 (3 + z) 0 (padE l z).length)], [(900, ⟨⟨1, 1, 10⟩, some (.cells [.u32 (stH l).a, .u32 (stH l).b, .u32 (stH l).c, .u32 (stH l).d, .u32 (stH l).e, .u32 (stH l).f, .u32 (stH l).g, .u32 (stH l).k, .sl 950 1 0 (stW l).length, .int .i64 l.length])⟩), (950, ⟨⟨1, 1, (stW l).length⟩, some (.bytes (stW l))⟩), (2, ⟨⟨1, 1, 32⟩, some (.bytes (List.replicate 32 0))⟩), (13, ⟨⟨3 + z, 1, (padE l z).length⟩, some (.bytes (padE l z))⟩)], []⟩) (fun z => z ≤ padZ l.length) (fun z => padZ l.length - z) 0 ?_ (Nat.zero_le _) (fun z hz => ?_)
  · rw [padE_zero, List.length_append]
    exact wk9_ hr9
  · have hel := padE_len l z
    repeat' (first | refine A1_ ?_ | refine C_ hE (fun hc => ?_) (fun hc => ?_) <;> (try (exfalso; omega)))
    · refine lq_n (z + 1) ?_ (by unfold padZ at *; omega) (by unfold padZ at *; omega)
      rw [padE_succ, List.length_append]
      exact wk9_ hr9
    · have hze : z = padZ l.length := by unfold padZ at *; omega
      subst hze
      obtain ⟨e0, he0⟩ : ∃ e0, e0 = padE l (padZ l.length) := ⟨_, rfl⟩
      rw [← he0] at hel hc ⊢
      have h56 : e0.length % 64 = 56 := by omega
      clear hc
      rw [hwr]
      refine vl (fun i : Nat => ⟨[(0, .ptr 900 1 0), (2, .ptr 2 1 0), (3, .sl 13 (3 + padZ l.length + i) 0 (e0 ++ (len8 l.length).take i).length), (4, .int .u64 ((l.length : Int) * 8)), (34, .int .i64 i)], [(900, ⟨⟨1, 1, 10⟩, some (.cells [.u32 (stH l).a, .u32 (stH l).b, .u32 (stH l).c, .u32 (stH l).d, .u32 (stH l).e, .u32 (stH l).f, .u32 (stH l).g, .u32 (stH l).k, .sl 950 1 0 (stW l).length, .int .i64 l.length])⟩), (950, ⟨⟨1, 1, (stW l).length⟩, some (.bytes (stW l))⟩), (2, ⟨⟨1, 1, 32⟩, some (.bytes (List.replicate 32 0))⟩), (13, ⟨⟨3 + padZ l.length + i, 1, (e0 ++ (len8 l.length).take i).length⟩, some (.bytes (e0 ++ (len8 l.length).take i))⟩)], []⟩) (fun i => i ≤ 8) (fun i => 8 - i) 0 ?_ (Nat.zero_le _) (fun i hi => ?_)
      · rw [List.take_zero, List.append_nil]
        exact wk9_ hr9
      · have hei : (e0 ++ (len8 l.length).take i).length ≤ e0.length + 8 := by rw [List.length_append, List.length_take]; simp [len8]; omega
        obtain ⟨E, hE'⟩ : ∃ E, E = e0 ++ (len8 l.length).take i := ⟨_, rfl⟩
        rw [← hE'] at hei ⊢
        repeat' (first | refine A1_ ?_ | refine C_ hE (fun hc => ?_) (fun hc => ?_) <;> (try (exfalso; omega)))
        · refine lq_n (i + 1) ?_ (by omega) (by omega)
          rw [len8_at _ _ (show i < 8 by omega), ← List.append_assoc, ← hE', List.length_append]
          exact wk9_ hr9
        · obtain rfl : i = 8 := by omega
          have hEl : E.length = e0.length + 8 := by rw [hE', List.length_append, List.length_take, len8_len]; rfl
          rw [show (len8 l.length).take 8 = len8 l.length from rfl, he0] at hE'
          have hsha := sha_of_state l E hE'
          have hE64 : E.length % 64 = 0 := by omega
          clear hE' h56 he0 hi hc
          repeat' (first | refine A1_ ?_ | refine C_ hE (fun hc => ?_) (fun hc => ?_) <;> (try (exfalso; omega)))
          refine vl (fun j : Nat => ⟨[(0, .ptr 900 1 0), (2, .ptr 2 1 0), (3, .sl 13 (3 + padZ l.length + 8) (64 * j) (E.length - 64 * j)), (6, .ptr 6 1 0)], [(900, ⟨⟨1, 1, 10⟩, some (.cells [.u32 (stH l).a, .u32 (stH l).b, .u32 (stH l).c, .u32 (stH l).d, .u32 (stH l).e, .u32 (stH l).f, .u32 (stH l).g, .u32 (stH l).k, .sl 950 1 0 (stW l).length, .int .i64 l.length])⟩), (950, ⟨⟨1, 1, (stW l).length⟩, some (.bytes (stW l))⟩), (2, ⟨⟨1, 1, 32⟩, some (.bytes (List.replicate 32 0))⟩), (13, ⟨⟨3 + padZ l.length + 8, 1, E.length⟩, some (.bytes E)⟩),
            (6, ⟨⟨1, 1, 8⟩, some (.cells [.u32 (abs8 (stH l) E j).a, .u32 (abs8 (stH l) E j).b, .u32 (abs8 (stH l) E j).c, .u32 (abs8 (stH l) E j).d, .u32 (abs8 (stH l) E j).e, .u32 (abs8 (stH l) E j).f, .u32 (abs8 (stH l) E j).g, .u32 (abs8 (stH l) E j).k])⟩)], []⟩) (fun j => 64 * j ≤ E.length) (fun j => E.length - 64 * j) 0 ?_ (Nat.zero_le _) (fun j hj => ?_)
          · exact wk9_ hr9
          · repeat' (first | refine A1_ ?_ | refine C_ hE (fun hc => ?_) (fun hc => ?_) <;> (try (exfalso; omega)))
            · first | refine O_ ?_ | refine OD_ hm ?_
              refine G_ 200 hE ?_
              refine rc_ hE hP (press_at (stH l) E j (by omega)) Tryd.func29 ?_
              refine G_ 200 hE ?_
              first | refine rz ?_ | refine ZD_ ?_
              refine A_ ?_
              rw [show 64 * j + 64 = 64 * (j + 1) by omega, show E.length - 64 * j - 64 = E.length - 64 * (j + 1) by omega]
              refine lq_n (j + 1) ?_ (by omega) (by omega)
              exact wk9_ hr9
            · have hj2 : j = E.length / 64 := by omega
              rw [← hj2] at hsha
              rw [hsha]
              generalize abs8 (stH l) E j = h at *
              refine A_ ?_
              refine vl (fun i : Nat => ⟨[(0, .ptr 900 1 0), (2, .ptr 2 1 0), (7, .ptr 7 1 0), (60, .agg [.u32 h.a, .u32 h.b, .u32 h.c, .u32 h.d, .u32 h.e, .u32 h.f, .u32 h.g, .u32 h.k]), (61, .int .i64 i)], [(900, ⟨⟨1, 1, 10⟩, some (.cells [.u32 (stH l).a, .u32 (stH l).b, .u32 (stH l).c, .u32 (stH l).d, .u32 (stH l).e, .u32 (stH l).f, .u32 (stH l).g, .u32 (stH l).k, .sl 950 1 0 (stW l).length, .int .i64 l.length])⟩), (950, ⟨⟨1, 1, (stW l).length⟩, some (.bytes (stW l))⟩), (2, ⟨⟨1, 1, 32⟩, some (.bytes (List.replicate 32 0))⟩), (7, ⟨⟨1, 1, 32⟩, some (.bytes (outT h i))⟩)], []⟩) (fun i => i ≤ 8) (fun i => 8 - i) 0 ?_ (Nat.zero_le _) (fun i hi => ?_)
              · exact wk9_ hr9
              · have hol := outT_len h i hi
                repeat' (first | refine A1_ ?_ | refine C_ hE (fun hc => ?_) (fun hc => ?_) <;> (try (exfalso; omega)))
                · have hg : [D.u32 h.a, .u32 h.b, .u32 h.c, .u32 h.d, .u32 h.e, .u32 h.f, .u32 h.g, .u32 h.k].getD ((i : Int).toNat * 1) .bot = .u32 (h.at_ i) := by rw [Int.toNat_natCast, Nat.mul_one]; exact h8_get h i (by omega)
                  first | refine O_ ?_ | refine OD_ hm ?_
                  refine G_ 1 hE ?_
                  refine L_ hE ?_ (hd := by exact hg) (hg := by simp only [hg]; exact sg_)
                  refine G_ 200 hE ?_
                  first | refine rz ?_ | refine ZD_ ?_
                  refine A_ ?_
                  rw [show (4 * (i : Int) + 3).toNat = 4 * i + 3 by omega, show (4 * (i : Int) + 2).toNat = 4 * i + 2 by omega, show (4 * (i : Int) + 1).toNat = 4 * i + 1 by omega, show (4 * (i : Int)).toNat = 4 * i by omega, outT_succ h i (by omega)]
                  refine lq_n (i + 1) ?_ (by omega) (by omega)
                  exact wk9_ hr9
                · obtain rfl : i = 8 := by omega
                  rw [outT_end] at hol ⊢
                  repeat' (first | refine A1_ ?_ | refine C_ hE (fun hc => ?_) (fun hc => ?_) <;> (try (exfalso; omega)))
                  exact retrc_
end Go.Proofs.YtabkpoklihkifaaDoor

/- hash's Of; the reference's All. Printed by wp.py. -/
namespace Go.Proofs.YtabkpoklihkifaaDoor
open Go Go.RowKit
set_option linter.unusedVariables false
set_option linter.unusedSimpArgs false
set_option maxRecDepth 100000
set_option maxHeartbeats 4000000
attribute [local irreducible] inR VC RG VCn sq inS lq nq jq Wk

theorem stC_len (l : List UInt8) : (stC l).length = 10 := rfl
attribute [local simp] sha_length stC_len

open Uno
theorem Of_fc (ps : List (List UInt8)) (hn : ps.length ≤ 1000000) (hb : ps.flatten.length ≤ 100000000000) : FC Tryd.prog GS 12 [.rof 1 ps.length (fun i _ => .rob (ps.getD i []))] (.aggb (sha ps.flatten)) none := by
  refine fic_ 10 ti_eq gpS Tryd.func12 (fun C hE hm hP hrc hrn => ?_)
  refine A_ ?_
  first | refine O_ ?_ | refine OD_ hm ?_
  refine G_ 200 hE ?_
  refine rc_ hE hP (New_fc) Tryd.func22 ?_
  refine G_ 200 hE ?_
  first | refine rz ?_ | refine ZD_ ?_
  refine A_ ?_
  first | refine O_ ?_ | refine OD_ hm ?_
  refine G_ 200 hE ?_
  refine rc_ hE hP (Put_fc [] ps hn (by simpa using hb)) Tryd.func23 ?_
  refine G_ 200 hE ?_
  first | refine rz ?_ | refine ZD_ ?_
  refine A_ ?_
  first | refine O_ ?_ | refine OD_ hm ?_
  refine G_ 200 hE ?_
  refine rc_ hE hP (Sum_fc ps.flatten hb) Tryd.func24 ?_
  refine G_ 200 hE ?_
  first | refine rz ?_ | refine ZD_ ?_
  refine A_ ?_
  exact retc_

end Go.Proofs.YtabkpoklihkifaaDoor

/- The law's stands: "abc" has its sum. Printed by wp.py. -/
namespace Go.Proofs.YtabkpoklihkifaaDoor
open Go Go.RowKit
set_option linter.unusedVariables false
set_option linter.unusedSimpArgs false
set_option maxRecDepth 100000
set_option maxHeartbeats 4000000
attribute [local irreducible] inR VC RG VCn sq inS lq nq jq Wk
attribute [local irreducible] sha
attribute [local simp] sha_length
theorem abcW : ∃ S, S = sha [97, 98, 99] ∧ gb S 0 = 186 ∧ gb S 31 = 173 ∧ S.length = 32 := by
  have h : gb (sha [97, 98, 99]) 0 = 186 ∧ gb (sha [97, 98, 99]) 1 = 120 ∧ gb (sha [97, 98, 99]) 31 = 173 := by rw [← shaC_eq]; exact sha_abc
  exact ⟨_, rfl, h.1, h.2.2, sha_length _⟩
theorem stands_abc (S : List UInt8) (hS : S = sha [97, 98, 99]) : FC Tryd.prog GS 12 [.rof 1 ([[97, 98, 99]] : List (List UInt8)).length (fun i _ => .rob (([[97, 98, 99]] : List (List UInt8)).getD i []))] (.aggb S) none := by
  subst hS
  exact Of_fc [[97, 98, 99]] (by decide) (by decide)

namespace Ustands_fc
theorem U : type_of% @sha_length ∧ type_of% (@drop_rep UInt8) ∧ type_of% (@drop_rep D) ∧ type_of% (@List.take_zero UInt8) ∧ type_of% (@List.take_zero D) := ⟨@sha_length, (@drop_rep UInt8), (@drop_rep D), (@List.take_zero UInt8), (@List.take_zero D)⟩
end Ustands_fc
open Ustands_fc
theorem stands_fc  : FC Tryd.prog GS 6 [] (.bool true) none := by
  refine fi_ 14 [0] ti_eq gpS Tryd.func6 (fun C hE hm hP hrc hrn => ?_)
  obtain ⟨S, hS, a1, a3, a4⟩ := abcW
  refine A_ ?_
  first | refine O_ ?_ | refine OD_ hm ?_
  refine G_ 200 hE ?_
  refine rc_ hE hP (stands_abc S hS) Tryd.func12 ?_
  clear hS
  refine G_ 200 hE ?_
  first | refine rz ?_ | refine ZD_ ?_
  rw [a4, drop_rep, List.append_nil]
  refine A_ ?_
  rw [a1, a3]
  exact ret_
end Go.Proofs.YtabkpoklihkifaaDoor
