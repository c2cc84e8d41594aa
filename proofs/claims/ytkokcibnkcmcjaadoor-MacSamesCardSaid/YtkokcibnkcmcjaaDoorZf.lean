/- What the claim leans on, text Zf: Sh1, Sh2, Sh3, Sh4, ShOa, Sh1b, Sh4b, Sh5, Sh6, ShaT, Sh7, Sh8. No condition beyond what each lemma states. -/
import Derived.Test.YtkokcibnkcmcjaaDoorZd
import Derived.Test.YtkokcibnkcmcjaaDoorZt
import Derived.Test.YtkokcibnkcmcjaaDoorZe

/- The functions of hash: New, Size, Copy, press, Put, Sum, Of. Printed by wp.py. -/
namespace Go.Proofs.YtkokcibnkcmcjaaDoor
open Go Go.RowKit
set_option linter.unusedVariables false
set_option linter.unusedSimpArgs false
set_option maxRecDepth 100000
set_option maxHeartbeats 4000000
attribute [local irreducible] inR VC RG VCn sq inS lq nq jq Wk

theorem stC0 : stC [] = [.u32 1779033703, .u32 3144134277, .u32 1013904242, .u32 2773480762, .u32 1359893119, .u32 2600822924, .u32 528734635, .u32 1541459225, .ownb [], .int .i64 0] := rfl
theorem ds0 : List.map (fun i => D.u32 (startL.getD i 0)) (List.range 8) = [.u32 1779033703, .u32 3144134277, .u32 1013904242, .u32 2773480762, .u32 1359893119, .u32 2600822924, .u32 528734635, .u32 1541459225] := rfl

open Uno
theorem New_fc  : FC Tryd.prog GS 26 [] (.ownp (stC [])) none := by
  rw [stC0]
  refine fi_ 4 [0] ti_eq gpS Tryd.func26 (fun C hE hm hP hrc hrn => ?_)
  refine A_ ?_
  rw [ds0]
  exact ret_
end Go.Proofs.YtkokcibnkcmcjaaDoor

/- hash's Put. Printed by wp.py. -/
namespace Go.Proofs.YtkokcibnkcmcjaaDoor
open Go Go.RowKit
set_option linter.unusedVariables false
set_option linter.unusedSimpArgs false
set_option maxRecDepth 100000
set_option maxHeartbeats 4000000
attribute [local irreducible] inR VC RG VCn sq inS lq nq jq Wk

open Uno
theorem Put_fc (l : List UInt8) (ps : List (List UInt8)) (hn : ps.length ≤ 1000000) (hb : l.length + ps.flatten.length ≤ 100000000000) : FC Tryd.prog GS 27 [.ownp (stC l), .rof 1 ps.length (fun i _ => .rob (ps.getD i []))] (.tup []) (some (stC (l ++ ps.flatten))) := by
  unfold stC
  refine fo_ 60 [] ti_eq gpS Tryd.func27 (fun C hE hm hP hr9 hrn => ?_)
  refine A_ ?_
  refine vl (fun k : Nat => ⟨[(0, .ptr 900 1 0), (8, .rof 1 ps.length (fun i _ => .rob (ps.getD i []))), (9, .int .i64 ps.length), (10, .int .i64 k)], [(900, ⟨⟨1, 1, 10⟩, some (.cells (stC (l ++ (ps.take k).flatten)))⟩)], []⟩) (fun k => k ≤ ps.length) (fun k => ps.length - k) 0 ?_ (Nat.zero_le _) (fun k hk => ?_)
  · have e : l ++ (List.take 0 ps).flatten = l := by simp
    rw [e]
    unfold stC
    exact wk9_ hr9
  · have hL1 := flat_le ps k
    obtain ⟨L, hL⟩ : ∃ L, L = l ++ (ps.take k).flatten := ⟨_, rfl⟩
    have hL2 : L.length = l.length + (ps.take k).flatten.length := by rw [hL, List.length_append]
    rw [← hL]
    rw [show stC L = [.u32 (stH L).a, .u32 (stH L).b, .u32 (stH L).c, .u32 (stH L).d, .u32 (stH L).e, .u32 (stH L).f, .u32 (stH L).g, .u32 (stH L).k, .ownb (stW L), .int .i64 L.length] from rfl]
    refine wv_ (so_ 900 8 950 0) ?_
    have hw := stW_length L
    by_cases hkl : k < ps.length
    · have hf := flat_succ ps hkl
      have hf2 := flat_le ps (k + 1)
      rw [hf, List.length_append] at hf2
      repeat' (first | refine A1_ ?_ | refine C_ hE (fun hc => ?_) (fun hc => ?_) <;> (try (exfalso; omega)))
      obtain ⟨m, hmd⟩ : ∃ m, m = stW L ++ ps.getD k [] := ⟨_, rfl⟩
      have hml : m.length = (stW L).length + (ps.getD k []).length := by rw [hmd, List.length_append]
      rw [← hmd, ← hml]
      refine vl (fun j : Nat => ⟨[(0, .ptr 900 1 0), (8, .rof 1 ps.length (fun i _ => .rob (ps.getD i []))), (9, .int .i64 ps.length), (10, .int .i64 k)], [(900, ⟨⟨1, 1, 10⟩, some (.cells [.u32 (abs8 (stH L) m j).a, .u32 (abs8 (stH L) m j).b, .u32 (abs8 (stH L) m j).c, .u32 (abs8 (stH L) m j).d, .u32 (abs8 (stH L) m j).e, .u32 (abs8 (stH L) m j).f, .u32 (abs8 (stH L) m j).g, .u32 (abs8 (stH L) m j).k, .sl 950 2 (64 * j) (m.length - 64 * j), .int .i64 ((L.length : Int) + ((ps.getD k []).length : Int))])⟩), (950, ⟨⟨2, 1, m.length⟩, some (.bytes m)⟩)], []⟩) (fun j => 64 * j ≤ m.length) (fun j => m.length - 64 * j) 0 ?_ (Nat.zero_le _) (fun j hj => ?_)
      · exact wk9_ hr9
      · repeat' (first | refine A1_ ?_ | refine C_ hE (fun hc => ?_) (fun hc => ?_) <;> (try (exfalso; omega)))
        · first | refine O_ ?_ | refine OD_ hm ?_
          refine G_ 200 hE ?_
          refine rc_ hE hP (press_at (stH L) m j (by omega)) Tryd.func72 ?_
          refine G_ 200 hE ?_
          first | refine rz ?_ | refine ZD_ ?_
          refine A_ ?_
          rw [show 64 * j + 64 = 64 * (j + 1) by omega, show m.length - 64 * j - 64 = m.length - 64 * (j + 1) by omega]
          refine lq_n (j + 1) ?_ (by omega) (by omega)
          exact wk9_ hr9
        · refine lq_n (k + 1) ?_ (by omega) (by omega)
          rw [hf, ← List.append_assoc, ← hL]
          refine Wk.trans (sc_ 900 8 950 (hcs := by exact ((stC_step L (ps.getD k []) m hmd j hj (by omega)).symm))) ?_
          unfold stC
          exact wk9_ hr9
    · have hkk : k = ps.length := by omega
      subst hkk
      rw [List.take_length] at hL
      rw [← hL]
      repeat' (first | refine A1_ ?_ | refine C_ hE (fun hc => ?_) (fun hc => ?_) <;> (try (exfalso; omega)))
      exact retr_
end Go.Proofs.YtkokcibnkcmcjaaDoor

/- hash's Sum. Printed by wp.py. -/
namespace Go.Proofs.YtkokcibnkcmcjaaDoor
open Go Go.RowKit
set_option linter.unusedVariables false
set_option linter.unusedSimpArgs false
set_option maxRecDepth 100000
set_option maxHeartbeats 4000000
attribute [local irreducible] inR VC RG VCn sq inS lq nq jq Wk

open Uno
theorem Sum_fc (l : List UInt8) (hb : l.length ≤ 100000000000) : FC Tryd.prog GS 28 [.ownp (stC l)] (.aggb (sha l)) (some (stC l)) := by
  unfold stC
  refine foc_ 93 ti_eq gpS Tryd.func28 (fun C hE hm hP hr9 hrn => ?_)
  have hw := stW_length l
  have hpz := padZ_lt l.length
  have hwr := wrap_inR .u64 (l.length : Int) ((inR_u64 _).2 ⟨by omega, by omega⟩)
  refine wv_ (so_ 900 8 950 0) ?_
  refine A_ ?_
  refine vl (fun z : Nat => ⟨[(0, .ptr 900 1 0), (2, .ptr 2 1 0), (3, .sl 13 (3 + z) 0 (padE l z).length)], [(900, ⟨⟨1, 1, 10⟩, some (.cells [.u32 (stH l).a, .u32 (stH l).b, .u32 (stH l).c, .u32 (stH l).d, .u32 (stH l).e, .u32 (stH l).f, .u32 (stH l).g, .u32 (stH l).k, .sl 950 1 0 (stW l).length, .int .i64 l.length])⟩), (950, ⟨⟨1, 1, (stW l).length⟩, some (.bytes (stW l))⟩), (2, ⟨⟨1, 1, 32⟩, some (.bytes (List.replicate 32 0))⟩), (13, ⟨⟨3 + z, 1, (padE l z).length⟩, some (.bytes (padE l z))⟩)], []⟩) (fun z => z ≤ padZ l.length) (fun z => padZ l.length - z) 0 ?_ (Nat.zero_le _) (fun z hz => ?_)
  · rw [padE_zero, List.length_append]
    exact wk9_ hr9
  · have hel := padE_len l z
    repeat' (first | refine A1_ ?_ | refine C_ hE (fun hc => ?_) (fun hc => ?_) <;> (try (exfalso; omega)))
    · refine lq_n (z + 1) ?_ (by unfold padZ at *; omega) (by unfold padZ at *; omega)
      rw [padE_succ, List.length_append]
      exact wk9_ hr9
    · have hze : z = padZ l.length := by unfold padZ at *; omega
      subst hze
      obtain ⟨e0, he0⟩ : ∃ e0, e0 = padE l (padZ l.length) := ⟨_, rfl⟩
      rw [← he0] at hel hc ⊢
      have h56 : e0.length % 64 = 56 := by omega
      clear hc
      rw [hwr]
      refine vl (fun i : Nat => ⟨[(0, .ptr 900 1 0), (2, .ptr 2 1 0), (3, .sl 13 (3 + padZ l.length + i) 0 (e0 ++ (len8 l.length).take i).length), (4, .int .u64 ((l.length : Int) * 8)), (34, .int .i64 i)], [(900, ⟨⟨1, 1, 10⟩, some (.cells [.u32 (stH l).a, .u32 (stH l).b, .u32 (stH l).c, .u32 (stH l).d, .u32 (stH l).e, .u32 (stH l).f, .u32 (stH l).g, .u32 (stH l).k, .sl 950 1 0 (stW l).length, .int .i64 l.length])⟩), (950, ⟨⟨1, 1, (stW l).length⟩, some (.bytes (stW l))⟩), (2, ⟨⟨1, 1, 32⟩, some (.bytes (List.replicate 32 0))⟩), (13, ⟨⟨3 + padZ l.length + i, 1, (e0 ++ (len8 l.length).take i).length⟩, some (.bytes (e0 ++ (len8 l.length).take i))⟩)], []⟩) (fun i => i ≤ 8) (fun i => 8 - i) 0 ?_ (Nat.zero_le _) (fun i hi => ?_)
      · rw [List.take_zero, List.append_nil]
        exact wk9_ hr9
      · have hei : (e0 ++ (len8 l.length).take i).length ≤ e0.length + 8 := by rw [List.length_append, List.length_take]; simp [len8]; omega
        obtain ⟨E, hE'⟩ : ∃ E, E = e0 ++ (len8 l.length).take i := ⟨_, rfl⟩
        rw [← hE'] at hei ⊢
        repeat' (first | refine A1_ ?_ | refine C_ hE (fun hc => ?_) (fun hc => ?_) <;> (try (exfalso; omega)))
        · refine lq_n (i + 1) ?_ (by omega) (by omega)
          rw [len8_at _ _ (show i < 8 by omega), ← List.append_assoc, ← hE', List.length_append]
          exact wk9_ hr9
        · obtain rfl : i = 8 := by omega
          have hEl : E.length = e0.length + 8 := by rw [hE', List.length_append, List.length_take, len8_len]; rfl
          rw [show (len8 l.length).take 8 = len8 l.length from rfl, he0] at hE'
          have hsha := sha_of_state l E hE'
          have hE64 : E.length % 64 = 0 := by omega
          clear hE' h56 he0 hi hc
          repeat' (first | refine A1_ ?_ | refine C_ hE (fun hc => ?_) (fun hc => ?_) <;> (try (exfalso; omega)))
          refine vl (fun j : Nat => ⟨[(0, .ptr 900 1 0), (2, .ptr 2 1 0), (3, .sl 13 (3 + padZ l.length + 8) (64 * j) (E.length - 64 * j)), (6, .ptr 6 1 0)], [(900, ⟨⟨1, 1, 10⟩, some (.cells [.u32 (stH l).a, .u32 (stH l).b, .u32 (stH l).c, .u32 (stH l).d, .u32 (stH l).e, .u32 (stH l).f, .u32 (stH l).g, .u32 (stH l).k, .sl 950 1 0 (stW l).length, .int .i64 l.length])⟩), (950, ⟨⟨1, 1, (stW l).length⟩, some (.bytes (stW l))⟩), (2, ⟨⟨1, 1, 32⟩, some (.bytes (List.replicate 32 0))⟩), (13, ⟨⟨3 + padZ l.length + 8, 1, E.length⟩, some (.bytes E)⟩),
            (6, ⟨⟨1, 1, 8⟩, some (.cells [.u32 (abs8 (stH l) E j).a, .u32 (abs8 (stH l) E j).b, .u32 (abs8 (stH l) E j).c, .u32 (abs8 (stH l) E j).d, .u32 (abs8 (stH l) E j).e, .u32 (abs8 (stH l) E j).f, .u32 (abs8 (stH l) E j).g, .u32 (abs8 (stH l) E j).k])⟩)], []⟩) (fun j => 64 * j ≤ E.length) (fun j => E.length - 64 * j) 0 ?_ (Nat.zero_le _) (fun j hj => ?_)
          · exact wk9_ hr9
          · repeat' (first | refine A1_ ?_ | refine C_ hE (fun hc => ?_) (fun hc => ?_) <;> (try (exfalso; omega)))
            · first | refine O_ ?_ | refine OD_ hm ?_
              refine G_ 200 hE ?_
              refine rc_ hE hP (press_at (stH l) E j (by omega)) Tryd.func72 ?_
              refine G_ 200 hE ?_
              first | refine rz ?_ | refine ZD_ ?_
              refine A_ ?_
              rw [show 64 * j + 64 = 64 * (j + 1) by omega, show E.length - 64 * j - 64 = E.length - 64 * (j + 1) by omega]
              refine lq_n (j + 1) ?_ (by omega) (by omega)
              exact wk9_ hr9
            · have hj2 : j = E.length / 64 := by omega
              rw [← hj2] at hsha
              rw [hsha]
              generalize abs8 (stH l) E j = h at *
              refine A_ ?_
              refine vl (fun i : Nat => ⟨[(0, .ptr 900 1 0), (2, .ptr 2 1 0), (7, .ptr 7 1 0), (60, .agg [.u32 h.a, .u32 h.b, .u32 h.c, .u32 h.d, .u32 h.e, .u32 h.f, .u32 h.g, .u32 h.k]), (61, .int .i64 i)], [(900, ⟨⟨1, 1, 10⟩, some (.cells [.u32 (stH l).a, .u32 (stH l).b, .u32 (stH l).c, .u32 (stH l).d, .u32 (stH l).e, .u32 (stH l).f, .u32 (stH l).g, .u32 (stH l).k, .sl 950 1 0 (stW l).length, .int .i64 l.length])⟩), (950, ⟨⟨1, 1, (stW l).length⟩, some (.bytes (stW l))⟩), (2, ⟨⟨1, 1, 32⟩, some (.bytes (List.replicate 32 0))⟩), (7, ⟨⟨1, 1, 32⟩, some (.bytes (outT h i))⟩)], []⟩) (fun i => i ≤ 8) (fun i => 8 - i) 0 ?_ (Nat.zero_le _) (fun i hi => ?_)
              · exact wk9_ hr9
              · have hol := outT_len h i hi
                repeat' (first | refine A1_ ?_ | refine C_ hE (fun hc => ?_) (fun hc => ?_) <;> (try (exfalso; omega)))
                · have hg : [D.u32 h.a, .u32 h.b, .u32 h.c, .u32 h.d, .u32 h.e, .u32 h.f, .u32 h.g, .u32 h.k].getD ((i : Int).toNat * 1) .bot = .u32 (h.at_ i) := by rw [Int.toNat_natCast, Nat.mul_one]; exact h8_get h i (by omega)
                  first | refine O_ ?_ | refine OD_ hm ?_
                  refine G_ 1 hE ?_
                  refine L_ hE ?_ (hd := by exact hg) (hg := by simp only [hg]; exact sg_)
                  refine G_ 200 hE ?_
                  first | refine rz ?_ | refine ZD_ ?_
                  refine A_ ?_
                  rw [show (4 * (i : Int) + 3).toNat = 4 * i + 3 by omega, show (4 * (i : Int) + 2).toNat = 4 * i + 2 by omega, show (4 * (i : Int) + 1).toNat = 4 * i + 1 by omega, show (4 * (i : Int)).toNat = 4 * i by omega, outT_succ h i (by omega)]
                  refine lq_n (i + 1) ?_ (by omega) (by omega)
                  exact wk9_ hr9
                · obtain rfl : i = 8 := by omega
                  rw [outT_end] at hol ⊢
                  repeat' (first | refine A1_ ?_ | refine C_ hE (fun hc => ?_) (fun hc => ?_) <;> (try (exfalso; omega)))
                  exact retrc_
end Go.Proofs.YtkokcibnkcmcjaaDoor

/- hash's Of; the reference's All. Printed by wp.py. -/
namespace Go.Proofs.YtkokcibnkcmcjaaDoor
open Go Go.RowKit
set_option linter.unusedVariables false
set_option linter.unusedSimpArgs false
set_option maxRecDepth 100000
set_option maxHeartbeats 4000000
attribute [local irreducible] inR VC RG VCn sq inS lq nq jq Wk

theorem stC_len (l : List UInt8) : (stC l).length = 10 := rfl
attribute [local simp] sha_length stC_len

open Uno
theorem Of_fc (ps : List (List UInt8)) (hn : ps.length ≤ 1000000) (hb : ps.flatten.length ≤ 100000000000) : FC Tryd.prog GS 22 [.rof 1 ps.length (fun i _ => .rob (ps.getD i []))] (.aggb (sha ps.flatten)) none := by
  refine fic_ 10 ti_eq gpS Tryd.func22 (fun C hE hm hP hrc hrn => ?_)
  refine A_ ?_
  first | refine O_ ?_ | refine OD_ hm ?_
  refine G_ 200 hE ?_
  refine rc_ hE hP (New_fc) Tryd.func26 ?_
  refine G_ 200 hE ?_
  first | refine rz ?_ | refine ZD_ ?_
  refine A_ ?_
  first | refine O_ ?_ | refine OD_ hm ?_
  refine G_ 200 hE ?_
  refine rc_ hE hP (Put_fc [] ps hn (by simpa using hb)) Tryd.func27 ?_
  refine G_ 200 hE ?_
  first | refine rz ?_ | refine ZD_ ?_
  refine A_ ?_
  first | refine O_ ?_ | refine OD_ hm ?_
  refine G_ 200 hE ?_
  refine rc_ hE hP (Sum_fc ps.flatten hb) Tryd.func28 ?_
  refine G_ 200 hE ?_
  first | refine rz ?_ | refine ZD_ ?_
  refine A_ ?_
  exact retc_

end Go.Proofs.YtkokcibnkcmcjaaDoor

/- Put and Of, of a few parts. -/
namespace Go.Proofs.YtkokcibnkcmcjaaDoor
open Go Go.RowKit
set_option linter.unusedVariables false
set_option linter.unusedSimpArgs false
set_option maxRecDepth 100000
set_option maxHeartbeats 4000000
attribute [local irreducible] inR VC RG VCn sq inS lq nq jq Wk
attribute [local irreducible] sha stH stW abs8
attribute [local simp] sha_length stC_len

theorem sha_take (l : List UInt8) : List.take 32 (sha l) = sha l := List.take_of_length_le (by rw [sha_length]; decide)
theorem stC_fr (l : List UInt8) : (stC l).all D.fr0 = true := rfl
theorem Put1_fc (l p : List UInt8) (hb : l.length + p.length ≤ 100000000000) : FC Tryd.prog GS 27 [.ownp (stC l), .rof 1 [p].length (fun i _ => .rob ([p].getD i []))] (.tup []) (some (stC (l ++ p))) := by
  have h := Put_fc l [p] (by simp) (by simpa using hb)
  rw [show [p].flatten = p by simp] at h
  exact h
theorem Put2_fc (l p q : List UInt8) (hb : l.length + (p.length + q.length) ≤ 100000000000) : FC Tryd.prog GS 27 [.ownp (stC l), .rof 1 [p, q].length (fun i _ => .rob ([p, q].getD i []))] (.tup []) (some (stC (l ++ (p ++ q)))) := by
  have h := Put_fc l [p, q] (by simp) (by simpa using hb)
  rw [show [p, q].flatten = p ++ q by simp] at h
  exact h
theorem Of1_fc (p : List UInt8) (hb : p.length ≤ 100000000000) : FC Tryd.prog GS 22 [.rof 1 [p].length (fun i _ => .rob ([p].getD i []))] (.aggb (sha p)) none := by
  have h := Of_fc [p] (by simp) (by simpa using hb)
  rw [show [p].flatten = p by simp] at h
  exact h
theorem Of2_fc (p q : List UInt8) (hb : p.length + q.length ≤ 100000000000) : FC Tryd.prog GS 22 [.rof 1 [p, q].length (fun i _ => .rob ([p, q].getD i []))] (.aggb (sha (p ++ q))) none := by
  have h := Of_fc [p, q] (by simp) (by simpa using hb)
  rw [show [p, q].flatten = p ++ q by simp] at h
  exact h
theorem Of3_fc (p q r : List UInt8) (hb : p.length + (q.length + r.length) ≤ 100000000000) : FC Tryd.prog GS 22 [.rof 1 [p, q, r].length (fun i _ => .rob ([p, q, r].getD i []))] (.aggb (sha (p ++ (q ++ r)))) none := by
  have h := Of_fc [p, q, r] (by simp) (by simpa using hb)
  rw [show [p, q, r].flatten = p ++ (q ++ r) by simp] at h
  exact h

end Go.Proofs.YtkokcibnkcmcjaaDoor

/- The functions of hash: Size, Copy. Printed by wp.py. -/
namespace Go.Proofs.YtkokcibnkcmcjaaDoor
open Go Go.RowKit
set_option linter.unusedVariables false
set_option linter.unusedSimpArgs false
set_option maxRecDepth 100000
set_option maxHeartbeats 4000000
attribute [local irreducible] inR VC RG VCn sq inS lq nq jq Wk

open Uno
theorem Size_fc (l : List UInt8) : FC Tryd.prog GS 33 [.ownp (stC l)] (.int .i64 l.length) (some (stC l)) := by
  unfold stC
  refine fo_ 9 [2] ti_eq gpS Tryd.func33 (fun C hE hm hP hr9 hrn => ?_)
  refine A_ ?_
  exact retr_

theorem Copy_fc (l : List UInt8) : FC Tryd.prog GS 34 [.ownp (stC l)] (.ownp (stC l)) (some (stC l)) := by
  unfold stC
  refine fo_ 21 [2] ti_eq gpS Tryd.func34 (fun C hE hm hP hr9 hrn => ?_)
  have hw := stW_length l
  refine A_ ?_
  refine wv_ (so_ 900 8 950 0) ?_
  refine RD_ hE hm ?_
  refine sq_n ?_
  refine wv_ (sc_ 900 8 950) ?_
  refine A_ ?_
  exact retr_
end Go.Proofs.YtkokcibnkcmcjaaDoor

/- The reference's All. Printed by wp.py. -/
namespace Go.Proofs.YtkokcibnkcmcjaaDoor
open Go Go.RowKit
set_option linter.unusedVariables false
set_option linter.unusedSimpArgs false
set_option maxRecDepth 100000
set_option maxHeartbeats 4000000
attribute [local irreducible] inR VC RG VCn sq inS lq nq jq Wk

attribute [local simp] sha_length stC_len

open Uno
theorem All_fc (ps : List (List UInt8)) (hn : ps.length ≤ 1000000) (hb : ps.flatten.length ≤ 100000000000) : FC Tryd.prog GS 25 [.rof 1 ps.length (fun i _ => .rob (ps.getD i []))] (.str ps.flatten) none := by
  refine fi_ 19 [2] ti_eq gpS Tryd.func25 (fun C hE hm hP hrc hrn => ?_)
  refine A_ ?_
  refine VC.weak ?_ (kniln 3 16 1 (c := .bytes []) rfl rfl rfl)
  refine vl (fun k : Nat => ⟨[(0, .rof 1 ps.length (fun i _ => .rob (ps.getD i []))), (3, .sl 16 (1 + k) 0 (ps.take k).flatten.length), (4, .int .i64 k)], [(16, ⟨⟨1 + k, 1, (ps.take k).flatten.length⟩, some (.bytes (ps.take k).flatten)⟩)], []⟩) (fun k => k ≤ ps.length) (fun k => ps.length - k) 0 ?_ (Nat.zero_le _) (fun k hk => ?_)
  · exact wk_ hrc
  · have hf2 := flat_le ps (k + 1)
    by_cases hkl : k < ps.length
    · have hf := flat_succ ps hkl
      rw [hf, List.length_append] at hf2
      repeat' (first | refine A1_ ?_ | refine C_ hE (fun hc => ?_) (fun hc => ?_) <;> (try (exfalso; omega)))
      refine lq_n (k + 1) ?_ (by omega) (by omega)
      rw [hf, List.length_append]
      exact wk_ hrc
    · obtain rfl : k = ps.length := by omega
      rw [List.take_length]
      repeat' (first | refine A1_ ?_ | refine C_ hE (fun hc => ?_) (fun hc => ?_) <;> (try (exfalso; omega)))
      exact ret_
end Go.Proofs.YtkokcibnkcmcjaaDoor

/- The reference's Few. Printed by wp.py. -/
namespace Go.Proofs.YtkokcibnkcmcjaaDoor
open Go Go.RowKit
set_option linter.unusedVariables false
set_option linter.unusedSimpArgs false
set_option maxRecDepth 100000
set_option maxHeartbeats 4000000
attribute [local irreducible] inR VC RG VCn sq inS lq nq jq Wk

/-- No more than m parts, of no more than e bytes each. -/
def fewL (ps : List (List UInt8)) (m e : Nat) : List (List UInt8) := (ps.take m).map (List.take e)
theorem fewL_len (ps : List (List UInt8)) (m e : Nat) : (fewL ps m e).length = min m ps.length := by simp [fewL]
theorem fewL_succ (ps : List (List UInt8)) (e : Nat) {k : Nat} (h : k < ps.length) : fewL ps (k + 1) e = fewL ps k e ++ [(ps.getD k []).take e] := by
  unfold fewL
  rw [List.take_add_one, List.getElem?_eq_getElem h, List.map_append, List.getD_eq_getElem?_getD, List.getElem?_eq_getElem h]
  rfl
theorem take_mn (l : List UInt8) (e : Nat) : List.take (min (l.length : Int) (e : Int)).toNat l = l.take e := by
  rcases Nat.le_total l.length e with h | h
  · rw [show (min (l.length : Int) (e : Int)).toNat = l.length by omega, List.take_length, List.take_of_length_le h]
  · rw [show (min (l.length : Int) (e : Int)).toNat = e by omega]
theorem fewL_min (ps : List (List UInt8)) (m e k : Nat) (h : k = min m ps.length) : fewL ps k e = fewL ps m e := by
  unfold fewL
  subst h
  rw [List.take_eq_take_min (l := ps) (i := m)]

theorem few_row (row : List UInt8) (e : Nat) : ((List.take 0 ([] : List UInt8) ++ List.take (min (row.length : Int) (e : Int)).toNat row).drop 0).take (min (min (row.length : Int) (e : Int)).toNat row.length) = row.take e := by
  rw [List.take_zero, List.nil_append, List.drop_zero, take_mn, List.take_of_length_le]
  rw [List.length_take]
  omega

open Uno
theorem Few_fc (ps : List (List UInt8)) (m e : Nat) (hm : m ≤ 1000) (he : e ≤ 1000000) : FC Tryd.prog GS 21 [.rof 1 ps.length (fun i _ => .rob (ps.getD i [])), .int .i64 m, .int .i64 e] (.owns 1 (fewL ps m e).length ((fewL ps m e).map D.rob)) none := by
  refine fi_ 38 [6] ti_eq gpS Tryd.func21 (fun C hE hm hP hrc hrn => ?_)
  refine A_ ?_
  refine VC.weak ?_ (kniln 7 36 1 (c := .cells []) rfl rfl rfl)
  refine vl (fun k : Nat => ⟨[(0, .rof 1 ps.length (fun i _ => .rob (ps.getD i []))), (1, .int .i64 m), (2, .int .i64 e), (7, .sl 36 (1 + k) 0 (fewL ps k e).length), (8, .int .i64 k)], [(36, ⟨⟨1 + k, 1, (fewL ps k e).length⟩, some (.cells ((fewL ps k e).map D.rob))⟩)], []⟩) (fun k => k ≤ ps.length ∧ k ≤ m) (fun k => m - k) 0 ?_ ⟨Nat.zero_le _, Nat.zero_le _⟩ (fun k hk => ?_)
  · exact wk_ hrc
  · have hl := fewL_len ps k e
    by_cases hkl : k < ps.length
    · by_cases hkm : k < m
      · repeat' (first | refine A1_ ?_ | refine C_ hE (fun hc => ?_) (fun hc => ?_) <;> (try (exfalso; omega)))
        refine lq_n (k + 1) ?_ ⟨by omega, by omega⟩ (by omega)
        have hl2 : (fewL ps k e).length + 1 = (fewL ps (k + 1) e).length := by rw [fewL_succ ps e hkl, List.length_append]; rfl
        refine Wk.trans (kclose 36 (fewL ps k e).length 21 (cs' := (fewL ps k e).map D.rob ++ [.ownb ((ps.getD k []).take e)]) rfl (cat_last _ _) rfl rfl rfl rfl (by rw [cat_set, few_row])) ?_
        refine Wk.trans (kfreeze 36 rfl (fr0_cz _ _) (frz_cz _ _)) ?_
        rw [← fewL_succ ps e hkl, hl2]
        exact wk_ hrc
      · obtain rfl : k = m := by omega
        repeat' (first | refine A1_ ?_ | refine C_ hE (fun hc => ?_) (fun hc => ?_) <;> (try (exfalso; omega)))
        exact ret_
    · rw [fewL_min ps m e k (by omega)] at hl ⊢
      repeat' (first | refine A1_ ?_ | refine C_ hE (fun hc => ?_) (fun hc => ?_) <;> (try (exfalso; omega)))
      exact ret_
end Go.Proofs.YtkokcibnkcmcjaaDoor

/- The reference's constants and Sum. Printed by wp.py. -/
namespace Go.Proofs.YtkokcibnkcmcjaaDoor
open Go Go.RowKit
set_option linter.unusedVariables false
set_option linter.unusedSimpArgs false
set_option maxRecDepth 100000
set_option maxHeartbeats 4000000
attribute [local irreducible] inR VC RG VCn sq inS lq nq jq Wk

open Uno
theorem constants_fc  : FC Tryd.prog GS 70 [] (.tup [.agg start8.ds, .agg (kt.map D.u32)]) none := by
  refine fic2_ 4 ti_eq gpS Tryd.func70 (fun C hE hm hP hrc hrn => ?_)
  refine vs ?_
  refine R_ hE ?_
  refine sq_n ?_
  refine vs ?_
  first | refine O_ ?_ | refine OD_ hm ?_
  refine G_ 1 hE ?_
  apply r1 (d1 := .agg (kt.map D.u32)) hE rfl rfl rfl
  · kernel_rfl
  · refine ⟨rfl, rfl, by decide, fun h => absurd h (by decide), ?_⟩
    repeat (refine ⟨rfl, Nat.le_of_ble_eq_true (by kernel_rfl), rfl, ?_⟩)
    exact trivial
  · rfl
  refine G_ 1 hE ?_
  apply r1 hE rfl rfl rfl
  · rfl
  · exact ⟨rfl, Nat.le_of_ble_eq_true (by kernel_rfl), by kernel_rfl, by kernel_rfl, Nat.le_of_ble_eq_true (by kernel_rfl)⟩
  · rfl
  first | refine rz ?_ | refine ZD_ ?_
  refine sq_n ?_
  refine vc_ret ?_
  apply fn_rc2 (d1 := .agg start8.ds) (d1' := .agg (kt.map D.u32)) rfl rfl
  · kernel_rfl
  · kernel_rfl
  · exact ⟨rfl, Nat.le_of_ble_eq_true (by kernel_rfl), by kernel_rfl, fun h => absurd h (by decide)⟩
  · exact ⟨rfl, Nat.le_of_ble_eq_true (by kernel_rfl), by kernel_rfl, fun h => absurd h (by decide)⟩
  · rfl
  apply fin0 rfl
  · apply mat2 rfl rfl
    · exact mat_eq rfl rfl
    · exact mat_eq rfl rfl
  · decide
  · decide
end Go.Proofs.YtkokcibnkcmcjaaDoor

/- The contract of the reference's turn. -/
namespace Go.Proofs.YtkokcibnkcmcjaaDoor
open Go Go.RowKit
set_option linter.unusedVariables false
set_option linter.unusedSimpArgs false
attribute [local go_sem ↓] bin_add32 bin_xor32 bin_and32 bin_or32 bin_shl32 bin_shr32 run_u32_of_u8 run_u8_of_u32
attribute [local go_sem ↓] un_not32
theorem turn_any (x : UInt32) (k : Int) (h1 : 1 ≤ k) (h2 : k < 32) (w : World) :
    Calls Tryd.prog 71 #[u32v x, .int .i64 k] w fun e w' => e = .returned (u32v (rotr x k.toNat)) ∧ ∃ n, w' = w.drewN n := by
  have i0 : (0 : Int) ≤ k := by omega
  have i2 : k ≤ 32 := by omega
  have wn : IntKind.i64.wrap (32 - k) = 32 - k := w64 (by omega) (by omega)
  go_enter Tryd.func71, Tryd.ntmps71
  go_wp2_with fail
  go_quiet (fail)
  go_wp2_with fail
  refine bodyPost_ret (v := u32v (rotr x k.toNat)) (by
    simp [results, Tryd.results71, go_sem, rotr, rol32]
    rw [or32_comm, show (32 - k).toNat = 32 - k.toNat by omega, show 32 - (32 - k.toNat) = k.toNat by omega]) rfl ⟨rfl, _, rfl⟩
theorem turn_fc (x : UInt32) (k : Int) (h1 : 1 ≤ k) (h2 : k < 32) : FC Tryd.prog GS 71 [.u32 x, .int .i64 k] (.u32 (rotr x k.toNat)) none := by
  refine fc_calls rfl (fun w S vs hS hG hl hr => ?_)
  obtain ⟨v0, v1, rfl⟩ : ∃ v0 v1, vs = [v0, v1] := by
    rcases vs with _ | ⟨v0, _ | ⟨v1, _ | ⟨v2, r⟩⟩⟩ <;> simp at hl
    exact ⟨v0, v1, rfl⟩
  obtain rfl := inv_u32 (hr 0 _ v0 rfl rfl)
  obtain rfl := inv_int (hr 1 _ v1 rfl rfl)
  refine (turn_any x k h1 h2 w).mono ?_
  rintro e w' ⟨rfl, n, rfl⟩
  exact ⟨_, [], rfl, below_drewN (Below.refl _ _) n, .u32 _, by simp, by simp⟩
end Go.Proofs.YtkokcibnkcmcjaaDoor

/- The reference's Sum. Printed by wp.py. -/
namespace Go.Proofs.YtkokcibnkcmcjaaDoor
open Go Go.RowKit
set_option linter.unusedVariables false
set_option linter.unusedSimpArgs false
set_option maxRecDepth 100000
set_option maxHeartbeats 4000000
attribute [local irreducible] inR VC RG VCn sq inS lq nq jq Wk
attribute [local irreducible] st8 abs8 add8 rotr shl32 shr32 bword sha

attribute [local simp] wsG_nm wsG_len wsG_sc wsG_fr
theorem constants_fcE : FC Tryd.prog GS 70 [] (.tup [.agg [.u32 (start8).a, .u32 (start8).b, .u32 (start8).c, .u32 (start8).d, .u32 (start8).e, .u32 (start8).f, .u32 (start8).g, .u32 (start8).k], .agg (kt.map D.u32)]) none := constants_fc

open Uno
theorem rSum_fc (l : List UInt8) (hb : l.length ≤ 100000000000) : FC Tryd.prog GS 24 [.str l] (.str (sha l)) none := by
  refine fi_ 261 [2] ti_eq gpS Tryd.func24 (fun C hE hm hP hrc hrn => ?_)
  have hpz := padZ_lt l.length
  have hwr := wrap_inR .u64 (l.length : Int) ((inR_u64 _).2 ⟨by omega, by omega⟩)
  refine A_ ?_
  first | refine O_ ?_ | refine OD_ hm ?_
  refine G_ 200 hE ?_
  refine rc_ hE hP (constants_fcE) Tryd.func70 ?_
  refine G_ 6 hE ?_
  apply r1 (obs := [(4, ⟨⟨1, 1, 64⟩, some (.cells (wsG 64 kat))⟩)]) hE rfl rfl rfl
  · rfl
  · exact ⟨rfl, Nat.le_of_ble_eq_true (by kernel_rfl), by kernel_rfl, by kernel_rfl, Nat.le_of_ble_eq_true (by kernel_rfl)⟩
  · rfl
  first | refine rz ?_ | refine ZD_ ?_
  refine A_ ?_
  refine vl (fun z : Nat => ⟨[(0, .str l), (3, .ptr 3 1 0), (4, .ptr 4 1 0), (5, .sl 28 (2 + z) 0 (padR l z).length)], [(3, ⟨⟨1, 1, 8⟩, some (.cells [.u32 (start8).a, .u32 (start8).b, .u32 (start8).c, .u32 (start8).d, .u32 (start8).e, .u32 (start8).f, .u32 (start8).g, .u32 (start8).k])⟩), (4, ⟨⟨1, 1, 64⟩, some (.cells (wsG 64 kat))⟩), (28, ⟨⟨2 + z, 1, (padR l z).length⟩, some (.bytes (padR l z))⟩)], []⟩) (fun z => z ≤ padZ l.length) (fun z => padZ l.length - z) 0 ?_ (Nat.zero_le _) (fun z hz => ?_)
  · rw [padR_zero, List.length_append]
    exact wk_ hrc
  · have hel := padR_len l z
    repeat' (first | refine A1_ ?_ | refine C_ hE (fun hc => ?_) (fun hc => ?_) <;> (try (exfalso; omega)))
    · refine lq_n (z + 1) ?_ (by unfold padZ at *; omega) (by unfold padZ at *; omega)
      rw [padR_succ, List.length_append]
      exact wk_ hrc
    · have hze : z = padZ l.length := by unfold padZ at *; omega
      subst hze
      obtain ⟨e0, he0⟩ : ∃ e0, e0 = padR l (padZ l.length) := ⟨_, rfl⟩
      rw [← he0] at hel hc ⊢
      have h56 : e0.length % 64 = 56 := by omega
      clear hc
      rw [hwr]
      refine vl (fun i : Nat => ⟨[(0, .str l), (3, .ptr 3 1 0), (4, .ptr 4 1 0), (5, .sl 28 (2 + padZ l.length + i) 0 (e0 ++ (len8 l.length).take i).length), (6, .int .u64 ((l.length : Int) * 8)), (7, .int .i64 (8 * (7 - (i : Int))))], [(3, ⟨⟨1, 1, 8⟩, some (.cells [.u32 (start8).a, .u32 (start8).b, .u32 (start8).c, .u32 (start8).d, .u32 (start8).e, .u32 (start8).f, .u32 (start8).g, .u32 (start8).k])⟩), (4, ⟨⟨1, 1, 64⟩, some (.cells (wsG 64 kat))⟩), (28, ⟨⟨2 + padZ l.length + i, 1, (e0 ++ (len8 l.length).take i).length⟩, some (.bytes (e0 ++ (len8 l.length).take i))⟩)], []⟩) (fun i => i ≤ 8) (fun i => 8 - i) 0 ?_ (Nat.zero_le _) (fun i hi => ?_)
      · rw [List.take_zero, List.append_nil]
        exact wk_ hrc
      · have hei : (e0 ++ (len8 l.length).take i).length ≤ e0.length + 8 := by rw [List.length_append, List.length_take]; simp [len8]; omega
        obtain ⟨E, hE'⟩ : ∃ E, E = e0 ++ (len8 l.length).take i := ⟨_, rfl⟩
        rw [← hE'] at hei ⊢
        repeat' (first | refine A1_ ?_ | refine C_ hE (fun hc => ?_) (fun hc => ?_) <;> (try (exfalso; omega)))
        · refine lq_n (i + 1) ?_ (by omega) (by omega)
          rw [len8_at _ _ (show i < 8 by omega), ← List.append_assoc, ← hE', List.length_append, show (8 : Int) * (7 - (i : Int)) - 8 = 8 * (7 - ((i + 1 : Nat) : Int)) by omega]
          exact wk_ hrc
        · obtain rfl : i = 8 := by omega
          have hEl : E.length = e0.length + 8 := by rw [hE', List.length_append, List.length_take, len8_len]; rfl
          rw [show (len8 l.length).take 8 = len8 l.length from rfl, he0, padR_pad] at hE'
          have hE64 : E.length % 64 = 0 := by omega
          have hsha := sha_pad l E hE'
          clear hE' h56 he0 hi hc
          repeat' (first | refine A1_ ?_ | refine C_ hE (fun hc => ?_) (fun hc => ?_) <;> (try (exfalso; omega)))
          refine vl (fun j : Nat => ⟨[(3, .ptr 3 1 0), (4, .ptr 4 1 0), (5, .sl 28 (2 + padZ l.length + 8) 0 E.length), (8, .int .i64 ((64 * j : Nat) : Int))], [(3, ⟨⟨1, 1, 8⟩, some (.cells [.u32 (abs8 start8 E j).a, .u32 (abs8 start8 E j).b, .u32 (abs8 start8 E j).c, .u32 (abs8 start8 E j).d, .u32 (abs8 start8 E j).e, .u32 (abs8 start8 E j).f, .u32 (abs8 start8 E j).g, .u32 (abs8 start8 E j).k])⟩), (4, ⟨⟨1, 1, 64⟩, some (.cells (wsG 64 kat))⟩), (28, ⟨⟨2 + padZ l.length + 8, 1, E.length⟩, some (.bytes E)⟩)], []⟩) (fun j => 64 * j ≤ E.length) (fun j => E.length - 64 * j) 0 ?_ (Nat.zero_le _) (fun j hj => ?_)
          · rw [abs8_zero]
            exact wk_ hrc
          · repeat' (first | refine A1_ ?_ | refine C_ hE (fun hc => ?_) (fun hc => ?_) <;> (try (exfalso; omega)))
            · have hj64 : 64 * j + 64 ≤ E.length := by omega
              rw [wsG_zero, ← uptoW_0 (E.drop (64 * j))]
              refine vl (fun k : Nat => ⟨[(3, .ptr 3 1 0), (4, .ptr 4 1 0), (5, .sl 28 (2 + padZ l.length + 8) 0 E.length), (8, .int .i64 ((64 * j : Nat) : Int)), (9, .ptr 9 1 0), (10, .int .i64 k)], [(3, ⟨⟨1, 1, 8⟩, some (.cells [.u32 (abs8 start8 E j).a, .u32 (abs8 start8 E j).b, .u32 (abs8 start8 E j).c, .u32 (abs8 start8 E j).d, .u32 (abs8 start8 E j).e, .u32 (abs8 start8 E j).f, .u32 (abs8 start8 E j).g, .u32 (abs8 start8 E j).k])⟩), (4, ⟨⟨1, 1, 64⟩, some (.cells (wsG 64 kat))⟩), (28, ⟨⟨2 + padZ l.length + 8, 1, E.length⟩, some (.bytes E)⟩), (9, ⟨⟨1, 1, 64⟩, some (.cells (wsG 64 (uptoW (E.drop (64 * j)) k)))⟩)], []⟩) (fun k => k ≤ 64) (fun k => 64 - k) 0 ?_ (Nat.zero_le _) (fun k hk => ?_)
              · exact wk_ hrc
              · repeat' (first | refine A1_ ?_ | refine C_ hE (fun hc => ?_) (fun hc => ?_) <;> (try (exfalso; omega)))
                · have hwl := wsG_len 64 (uptoW (E.drop (64 * j)) k)
                  refine A_ ?_
                  rw [show (((64 * j : Nat) : Int) + 4 * (k : Int)).toNat = 64 * j + 4 * k by omega, show (((64 * j : Nat) : Int) + 4 * (k : Int) + 1).toNat = 64 * j + 4 * k + 1 by omega, show (((64 * j : Nat) : Int) + 4 * (k : Int) + 2).toNat = 64 * j + 4 * k + 2 by omega, show (((64 * j : Nat) : Int) + 4 * (k : Int) + 3).toNat = 64 * j + 4 * k + 3 by omega, bword_at, ← wk_lo (E.drop (64 * j)) (show k < 16 by omega), wsG_set (uptoW_set (E.drop (64 * j)) k)]
                  refine lq_n (k + 1) ?_ (by omega) (by omega)
                  exact wk_ hrc
                · have hwl := wsG_len 64 (uptoW (E.drop (64 * j)) k)
                  have w15 : (wsG 64 (uptoW (E.drop (64 * j)) k)).getD ((k : Int) - 15).toNat .bot = .u32 (wk (E.drop (64 * j)) (k - 15)) := by rw [show ((k : Int) - 15).toNat = k - 15 by omega, wsG_get (by omega), uptoW_lt (by omega)]
                  have w2 : (wsG 64 (uptoW (E.drop (64 * j)) k)).getD ((k : Int) - 2).toNat .bot = .u32 (wk (E.drop (64 * j)) (k - 2)) := by rw [show ((k : Int) - 2).toNat = k - 2 by omega, wsG_get (by omega), uptoW_lt (by omega)]
                  have w16 : (wsG 64 (uptoW (E.drop (64 * j)) k)).getD ((k : Int) - 16).toNat .bot = .u32 (wk (E.drop (64 * j)) (k - 16)) := by rw [show ((k : Int) - 16).toNat = k - 16 by omega, wsG_get (by omega), uptoW_lt (by omega)]
                  have w7 : (wsG 64 (uptoW (E.drop (64 * j)) k)).getD ((k : Int) - 7).toNat .bot = .u32 (wk (E.drop (64 * j)) (k - 7)) := by rw [show ((k : Int) - 7).toNat = k - 7 by omega, wsG_get (by omega), uptoW_lt (by omega)]
                  first | refine O_ ?_ | refine OD_ hm ?_
                  refine G_ 3 hE ?_
                  refine L_ hE ?_ (hd := by exact w15) (hg := by simp only [w15]; exact sg_)
                  refine G_ 3 hE ?_
                  refine L_ hE ?_ (hd := by exact w2) (hg := by simp only [w2]; exact sg_)
                  refine G_ 200 hE ?_
                  first | refine rz ?_ | refine ZD_ ?_
                  refine sq_n ?_
                  first | refine O_ ?_ | refine OD_ hm ?_
                  refine G_ 4 hE ?_
                  refine L_ hE ?_ (hd := by exact w16) (hg := by simp only [w16]; exact sg_)
                  refine G_ 1 hE ?_
                  refine rc_ hE hP (turn_fc (wk (E.drop (64 * j)) (k - 15)) 7 (by decide) (by decide)) Tryd.func71 ?_
                  refine G_ 1 hE ?_
                  refine rc_ hE hP (turn_fc (wk (E.drop (64 * j)) (k - 15)) 18 (by decide) (by decide)) Tryd.func71 ?_
                  refine G_ 8 hE ?_
                  refine L_ hE ?_ (hd := by exact w7) (hg := by simp only [w7]; exact sg_)
                  refine G_ 2 hE ?_
                  refine rc_ hE hP (turn_fc (wk (E.drop (64 * j)) (k - 2)) 17 (by decide) (by decide)) Tryd.func71 ?_
                  refine G_ 1 hE ?_
                  refine rc_ hE hP (turn_fc (wk (E.drop (64 * j)) (k - 2)) 19 (by decide) (by decide)) Tryd.func71 ?_
                  refine G_ 200 hE ?_
                  first | refine rz ?_ | refine ZD_ ?_
                  refine A_ ?_
                  rw [wk_ref _ (by omega), wsG_set (uptoW_set (E.drop (64 * j)) k)]
                  refine lq_n (k + 1) ?_ (by omega) (by omega)
                  exact wk_ hrc
                · obtain rfl : k = 64 := by omega
                  refine vl (fun k : Nat => ⟨[(3, .ptr 3 1 0), (4, .ptr 4 1 0), (5, .sl 28 (2 + padZ l.length + 8) 0 E.length), (8, .int .i64 ((64 * j : Nat) : Int)), (9, .ptr 9 1 0), (14, .ptr 14 1 0), (15, .int .i64 k)], [(3, ⟨⟨1, 1, 8⟩, some (.cells [.u32 (abs8 start8 E j).a, .u32 (abs8 start8 E j).b, .u32 (abs8 start8 E j).c, .u32 (abs8 start8 E j).d, .u32 (abs8 start8 E j).e, .u32 (abs8 start8 E j).f, .u32 (abs8 start8 E j).g, .u32 (abs8 start8 E j).k])⟩), (4, ⟨⟨1, 1, 64⟩, some (.cells (wsG 64 kat))⟩), (28, ⟨⟨2 + padZ l.length + 8, 1, E.length⟩, some (.bytes E)⟩), (9, ⟨⟨1, 1, 64⟩, some (.cells (wsG 64 (uptoW (E.drop (64 * j)) 64)))⟩), (14, ⟨⟨1, 1, 8⟩, some (.cells [.u32 (st8 (abs8 start8 E j) (E.drop (64 * j)) k).a, .u32 (st8 (abs8 start8 E j) (E.drop (64 * j)) k).b, .u32 (st8 (abs8 start8 E j) (E.drop (64 * j)) k).c, .u32 (st8 (abs8 start8 E j) (E.drop (64 * j)) k).d, .u32 (st8 (abs8 start8 E j) (E.drop (64 * j)) k).e, .u32 (st8 (abs8 start8 E j) (E.drop (64 * j)) k).f, .u32 (st8 (abs8 start8 E j) (E.drop (64 * j)) k).g, .u32 (st8 (abs8 start8 E j) (E.drop (64 * j)) k).k])⟩)], []⟩) (fun k => k ≤ 64) (fun k => 64 - k) 0 ?_ (Nat.zero_le _) (fun k hk => ?_)
                  · rw [st8_zero]
                    exact wk_ hrc
                  · have hkl := wsG_len 64 kat
                    have hwl := wsG_len 64 (uptoW (E.drop (64 * j)) 64)
                    repeat' (first | refine A1_ ?_ | refine C_ hE (fun hc => ?_) (fun hc => ?_) <;> (try (exfalso; omega)))
                    · obtain ⟨V, hV⟩ : ∃ V, V = st8 (abs8 start8 E j) (E.drop (64 * j)) k := ⟨_, rfl⟩
                      have hst := st8_ref (abs8 start8 E j) (E.drop (64 * j)) k V hV
                      have wk1 : (wsG 64 kat).getD k .bot = .u32 (kat k) := wsG_get (by omega)
                      have ww : (wsG 64 (uptoW (E.drop (64 * j)) 64)).getD k .bot = .u32 (wk (E.drop (64 * j)) k) := by rw [wsG_get (by omega), uptoW_lt (by omega)]
                      rw [← hV]
                      first | refine O_ ?_ | refine OD_ hm ?_
                      refine G_ 3 hE ?_
                      refine rc_ hE hP (turn_fc V.e 6 (by decide) (by decide)) Tryd.func71 ?_
                      refine G_ 1 hE ?_
                      refine rc_ hE hP (turn_fc V.e 11 (by decide) (by decide)) Tryd.func71 ?_
                      refine G_ 2 hE ?_
                      refine rc_ hE hP (turn_fc V.e 25 (by decide) (by decide)) Tryd.func71 ?_
                      refine G_ 15 hE ?_
                      refine L_ hE ?_ (hd := by exact wk1) (hg := by simp only [wk1]; exact sg_)
                      refine G_ 3 hE ?_
                      refine L_ hE ?_ (hd := by exact ww) (hg := by simp only [ww]; exact sg_)
                      refine G_ 200 hE ?_
                      first | refine rz ?_ | refine ZD_ ?_
                      refine sq_n ?_
                      generalize V.k + (rotr V.e 6 ^^^ rotr V.e 11 ^^^ rotr V.e 25) + ((V.e &&& V.f) ^^^ ((4294967295 ^^^ V.e) &&& V.g)) + kat k + wk (E.drop (64 * j)) k = t1 at hst ⊢
                      refine vs ?_
                      first | refine O_ ?_ | refine OD_ hm ?_
                      refine G_ 1 hE ?_
                      refine rc_ hE hP (turn_fc V.a 2 (by decide) (by decide)) Tryd.func71 ?_
                      refine G_ 1 hE ?_
                      refine rc_ hE hP (turn_fc V.a 13 (by decide) (by decide)) Tryd.func71 ?_
                      refine G_ 2 hE ?_
                      refine rc_ hE hP (turn_fc V.a 22 (by decide) (by decide)) Tryd.func71 ?_
                      refine G_ 200 hE ?_
                      first | refine rz ?_ | refine ZD_ ?_
                      refine A_ ?_
                      refine lq_n (k + 1) ?_ (by omega) (by omega)
                      rw [hst]
                      exact wk_ hrc
                    · obtain rfl : k = 64 := by omega
                      obtain ⟨V, hV⟩ : ∃ V, V = st8 (abs8 start8 E j) (E.drop (64 * j)) 64 := ⟨_, rfl⟩
                      have hnx : abs8 start8 E (j + 1) = add8 (abs8 start8 E j) V := by rw [hV]; exact abs8_next _ _ _
                      rw [← hV, wsG_h8 (abs8 start8 E j), wsG_h8 V, ← addW_0 (abs8 start8 E j) V]
                      refine vl (fun i : Nat => ⟨[(3, .ptr 3 1 0), (4, .ptr 4 1 0), (5, .sl 28 (2 + padZ l.length + 8) 0 E.length), (8, .int .i64 ((64 * j : Nat) : Int)), (14, .ptr 14 1 0), (20, .int .i64 i)], [(3, ⟨⟨1, 1, 8⟩, some (.cells (wsG 8 (addW (abs8 start8 E j) V i)))⟩), (4, ⟨⟨1, 1, 64⟩, some (.cells (wsG 64 kat))⟩), (28, ⟨⟨2 + padZ l.length + 8, 1, E.length⟩, some (.bytes E)⟩), (14, ⟨⟨1, 1, 8⟩, some (.cells (wsG 8 V.at_))⟩)], []⟩) (fun i => i ≤ 8) (fun i => 8 - i) 0 ?_ (Nat.zero_le _) (fun i hi => ?_)
                      · exact wk_ hrc
                      · have hl3 := wsG_len 8 (addW (abs8 start8 E j) V i)
                        have hl14 := wsG_len 8 V.at_
                        repeat' (first | refine A1_ ?_ | refine C_ hE (fun hc => ?_) (fun hc => ?_) <;> (try (exfalso; omega)))
                        · have g3 : (wsG 8 (addW (abs8 start8 E j) V i)).getD i .bot = .u32 ((abs8 start8 E j).at_ i) := by rw [wsG_get (by omega), addW_ge (by omega)]
                          have g14 : (wsG 8 V.at_).getD i .bot = .u32 (V.at_ i) := wsG_get (by omega)
                          first | refine O_ ?_ | refine OD_ hm ?_
                          refine G_ 3 hE ?_
                          refine L_ hE ?_ (hd := by exact g3) (hg := by simp only [g3]; exact sg_)
                          refine G_ 2 hE ?_
                          refine L_ hE ?_ (hd := by exact g14) (hg := by simp only [g14]; exact sg_)
                          refine G_ 200 hE ?_
                          first | refine rz ?_ | refine ZD_ ?_
                          refine A_ ?_
                          rw [wsG_set (addW_set (abs8 start8 E j) V i)]
                          refine lq_n (i + 1) ?_ (by omega) (by omega)
                          exact wk_ hrc
                        · obtain rfl : i = 8 := by omega
                          rw [addW_end, ← wsG_h8, ← hnx, show ((64 * j : Nat) : Int) + 64 = ((64 * (j + 1) : Nat) : Int) by omega]
                          refine lq_n (j + 1) ?_ (by omega) (by omega)
                          exact wk_ hrc
            · have hj2 : j = E.length / 64 := by omega
              rw [← hj2] at hsha
              rw [hsha]
              generalize abs8 start8 E j = h at *
              rw [wsG_h8]
              refine A_ ?_
              refine VC.weak ?_ (kniln 21 960 1 (c := .bytes []) rfl rfl rfl)
              refine vl (fun i : Nat => ⟨[(3, .ptr 3 1 0), (21, .sl 960 (1 + i) 0 (outA h i).length), (22, .int .i64 i)], [(3, ⟨⟨1, 1, 8⟩, some (.cells (wsG 8 h.at_))⟩), (960, ⟨⟨1 + i, 1, (outA h i).length⟩, some (.bytes (outA h i))⟩)], []⟩) (fun i => i ≤ 8) (fun i => 8 - i) 0 ?_ (Nat.zero_le _) (fun i hi => ?_)
              · rw [outA_zero]
                exact wk_ hrc
              · have hl3 := wsG_len 8 h.at_
                have hol := outA_len h i hi
                repeat' (first | refine A1_ ?_ | refine C_ hE (fun hc => ?_) (fun hc => ?_) <;> (try (exfalso; omega)))
                · have g3 : (wsG 8 h.at_).getD i .bot = .u32 (h.at_ i) := wsG_get (by omega)
                  first | refine O_ ?_ | refine OD_ hm ?_
                  refine G_ 3 hE ?_
                  refine L_ hE ?_ (hd := by exact g3) (hg := by simp only [g3]; exact sg_)
                  refine G_ 4 hE ?_
                  refine L_ hE ?_ (hd := by exact g3) (hg := by simp only [g3]; exact sg_)
                  refine G_ 4 hE ?_
                  refine L_ hE ?_ (hd := by exact g3) (hg := by simp only [g3]; exact sg_)
                  refine G_ 4 hE ?_
                  refine L_ hE ?_ (hd := by exact g3) (hg := by simp only [g3]; exact sg_)
                  refine G_ 200 hE ?_
                  first | refine rz ?_ | refine ZD_ ?_
                  refine A_ ?_
                  refine lq_n (i + 1) ?_ (by omega) (by omega)
                  rw [outA_succ h i (by omega), List.length_append]
                  exact wk_ hrc
                · obtain rfl : i = 8 := by omega
                  rw [outA_end]
                  repeat' (first | refine A1_ ?_ | refine C_ hE (fun hc => ?_) (fun hc => ?_) <;> (try (exfalso; omega)))
                  exact ret_
end Go.Proofs.YtkokcibnkcmcjaaDoor

/- The laws' small functions: sums, none. Printed by wp.py. -/
namespace Go.Proofs.YtkokcibnkcmcjaaDoor
open Go Go.RowKit
set_option linter.unusedVariables false
set_option linter.unusedSimpArgs false
set_option maxRecDepth 100000
set_option maxHeartbeats 4000000
attribute [local irreducible] inR VC RG VCn sq inS lq nq jq Wk
attribute [local irreducible] sha
attribute [local simp] sha_length

theorem sha_abc' : gb (sha [97, 98, 99]) 0 = 186 ∧ gb (sha [97, 98, 99]) 1 = 120 ∧ gb (sha [97, 98, 99]) 31 = 173 := by rw [← shaC_eq]; exact sha_abc

theorem Of_abc (S : List UInt8) (hS : S = sha [97, 98, 99]) : FC Tryd.prog GS 22 [.rof 1 ([[97], [], [98, 99]] : List (List UInt8)).length (fun i _ => .rob (([[97], [], [98, 99]] : List (List UInt8)).getD i []))] (.aggb S) none := by
  subst hS
  exact Of_fc [[97], [], [98, 99]] (by decide) (by decide)
theorem abcS : ∃ S, S = sha [97, 98, 99] ∧ gb S 0 = 186 ∧ gb S 1 = 120 ∧ gb S 31 = 173 ∧ S.length = 32 := ⟨_, rfl, sha_abc'.1, sha_abc'.2.1, sha_abc'.2.2, sha_length _⟩
namespace Unone_fc
theorem U : type_of% @sha_length ∧ type_of% (@drop_rep UInt8) ∧ type_of% (@drop_rep D) ∧ type_of% (@List.take_zero UInt8) ∧ type_of% (@List.take_zero D) := ⟨@sha_length, (@drop_rep UInt8), (@drop_rep D), (@List.take_zero UInt8), (@List.take_zero D)⟩
end Unone_fc
open Unone_fc
theorem none_fc  : FC Tryd.prog GS 32 [] .nilP none := by
  refine fi_ 1 [0] ti_eq gpS Tryd.func32 (fun C hE hm hP hrc hrn => ?_)
  refine A_ ?_
  exact ret_

theorem sums_fc  : FC Tryd.prog GS 23 [] (.bool true) none := by
  refine fi_ 21 [0] ti_eq gpS Tryd.func23 (fun C hE hm hP hrc hrn => ?_)
  obtain ⟨S, hS, a1, a2, a3, a4⟩ := abcS
  refine A_ ?_
  first | refine O_ ?_ | refine OD_ hm ?_
  refine G_ 200 hE ?_
  refine rc_ hE hP (Of_abc S hS) Tryd.func22 ?_
  clear hS
  refine G_ 200 hE ?_
  first | refine rz ?_ | refine ZD_ ?_
  rw [a4, drop_rep, List.append_nil]
  refine A_ ?_
  rw [a1, a2, a3]
  exact ret_
end Go.Proofs.YtkokcibnkcmcjaaDoor
