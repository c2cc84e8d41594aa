/- What the claim leans on, text Zf: Sh1, Sh2, Sh3, Sh4, ShOa, Sh12, Sh13. No condition beyond what each lemma states. -/
import Derived.Test.YtocfhkmdkdjinaaDoorZd
import Derived.Test.YtocfhkmdkdjinaaDoorZt
import Derived.Test.YtocfhkmdkdjinaaDoorZe

/- The functions of hash: New, Size, Copy, press, Put, Sum, Of. Printed by wp.py. -/
namespace Go.Proofs.YtocfhkmdkdjinaaDoor
open Go Go.RowKit
set_option linter.unusedVariables false
set_option linter.unusedSimpArgs false
set_option maxRecDepth 100000
set_option maxHeartbeats 4000000
attribute [local irreducible] inR VC RG VCn sq inS lq nq jq Wk

theorem stC0 : stC [] = [.u32 1779033703, .u32 3144134277, .u32 1013904242, .u32 2773480762, .u32 1359893119, .u32 2600822924, .u32 528734635, .u32 1541459225, .ownb [], .int .i64 0] := rfl
theorem ds0 : List.map (fun i => D.u32 (startL.getD i 0)) (List.range 8) = [.u32 1779033703, .u32 3144134277, .u32 1013904242, .u32 2773480762, .u32 1359893119, .u32 2600822924, .u32 528734635, .u32 1541459225] := rfl

open Uno
theorem New_fc  : FC Tryd.prog GS 96 [] (.ownp (stC [])) none := by
  rw [stC0]
  refine fi_ 4 [0] ti_eq gpS Tryd.func96 (fun C hE hm hP hrc hrn => ?_)
  refine A_ ?_
  rw [ds0]
  exact ret_
end Go.Proofs.YtocfhkmdkdjinaaDoor

/- hash's Put. Printed by wp.py. -/
namespace Go.Proofs.YtocfhkmdkdjinaaDoor
open Go Go.RowKit
set_option linter.unusedVariables false
set_option linter.unusedSimpArgs false
set_option maxRecDepth 100000
set_option maxHeartbeats 4000000
attribute [local irreducible] inR VC RG VCn sq inS lq nq jq Wk

open Uno
theorem Put_fc (l : List UInt8) (ps : List (List UInt8)) (hn : ps.length ≤ 1000000) (hb : l.length + ps.flatten.length ≤ 100000000000) : FC Tryd.prog GS 97 [.ownp (stC l), .rof 1 ps.length (fun i _ => .rob (ps.getD i []))] (.tup []) (some (stC (l ++ ps.flatten))) := by
  unfold stC
  refine fo_ 60 [] ti_eq gpS Tryd.func97 (fun C hE hm hP hr9 hrn => ?_)
  refine A_ ?_
  refine vl (fun k : Nat => ⟨[(0, .ptr 900 1 0), (8, .rof 1 ps.length (fun i _ => .rob (ps.getD i []))), (9, .int .i64 ps.length), (10, .int .i64 k)], [(900, ⟨⟨1, 1, 10⟩, some (.cells (stC (l ++ (ps.take k).flatten)))⟩)], []⟩) (fun k => k ≤ ps.length) (fun k => ps.length - k) 0 ?_ (Nat.zero_le _) (fun k hk => ?_)
  · have e : l ++ (List.take 0 ps).flatten = l := by simp
    rw [e]
    unfold stC
    exact wk9_ hr9
  · have hL1 := flat_le ps k
    obtain ⟨L, hL⟩ : ∃ L, L = l ++ (ps.take k).flatten := ⟨_, rfl⟩
    have hL2 : L.length = l.length + (ps.take k).flatten.length := by rw [hL, List.length_append]
    rw [← hL]
    rw [show stC L = [.u32 (stH L).a, .u32 (stH L).b, .u32 (stH L).c, .u32 (stH L).d, .u32 (stH L).e, .u32 (stH L).f, .u32 (stH L).g, .u32 (stH L).k, .ownb (stW L), .int .i64 L.length] from rfl]
    refine wv_ (so_ 900 8 950 0) ?_
    have hw := stW_length L
    by_cases hkl : k < ps.length
    · have hf := flat_succ ps hkl
      have hf2 := flat_le ps (k + 1)
      rw [hf, List.length_append] at hf2
      repeat' (first | refine A1_ ?_ | refine C_ hE (fun hc => ?_) (fun hc => ?_) <;> (try (exfalso; omega)))
      obtain ⟨m, hmd⟩ : ∃ m, m = stW L ++ ps.getD k [] := ⟨_, rfl⟩
      have hml : m.length = (stW L).length + (ps.getD k []).length := by rw [hmd, List.length_append]
      rw [← hmd, ← hml]
      refine vl (fun j : Nat => ⟨[(0, .ptr 900 1 0), (8, .rof 1 ps.length (fun i _ => .rob (ps.getD i []))), (9, .int .i64 ps.length), (10, .int .i64 k)], [(900, ⟨⟨1, 1, 10⟩, some (.cells [.u32 (abs8 (stH L) m j).a, .u32 (abs8 (stH L) m j).b, .u32 (abs8 (stH L) m j).c, .u32 (abs8 (stH L) m j).d, .u32 (abs8 (stH L) m j).e, .u32 (abs8 (stH L) m j).f, .u32 (abs8 (stH L) m j).g, .u32 (abs8 (stH L) m j).k, .sl 950 2 (64 * j) (m.length - 64 * j), .int .i64 ((L.length : Int) + ((ps.getD k []).length : Int))])⟩), (950, ⟨⟨2, 1, m.length⟩, some (.bytes m)⟩)], []⟩) (fun j => 64 * j ≤ m.length) (fun j => m.length - 64 * j) 0 ?_ (Nat.zero_le _) (fun j hj => ?_)
      · exact wk9_ hr9
      · repeat' (first | refine A1_ ?_ | refine C_ hE (fun hc => ?_) (fun hc => ?_) <;> (try (exfalso; omega)))
        · first | refine O_ ?_ | refine OD_ hm ?_
          refine G_ 200 hE ?_
          refine rc_ hE hP (press_at (stH L) m j (by omega)) Tryd.func116 ?_
          refine G_ 200 hE ?_
          first | refine rz ?_ | refine ZD_ ?_
          refine A_ ?_
          rw [show 64 * j + 64 = 64 * (j + 1) by omega, show m.length - 64 * j - 64 = m.length - 64 * (j + 1) by omega]
          refine lq_n (j + 1) ?_ (by omega) (by omega)
          exact wk9_ hr9
        · refine lq_n (k + 1) ?_ (by omega) (by omega)
          rw [hf, ← List.append_assoc, ← hL]
          refine Wk.trans (sc_ 900 8 950 (hcs := by exact ((stC_step L (ps.getD k []) m hmd j hj (by omega)).symm))) ?_
          unfold stC
          exact wk9_ hr9
    · have hkk : k = ps.length := by omega
      subst hkk
      rw [List.take_length] at hL
      rw [← hL]
      repeat' (first | refine A1_ ?_ | refine C_ hE (fun hc => ?_) (fun hc => ?_) <;> (try (exfalso; omega)))
      exact retr_
end Go.Proofs.YtocfhkmdkdjinaaDoor

/- hash's Sum. Printed by wp.py. -/
namespace Go.Proofs.YtocfhkmdkdjinaaDoor
open Go Go.RowKit
set_option linter.unusedVariables false
set_option linter.unusedSimpArgs false
set_option maxRecDepth 100000
set_option maxHeartbeats 4000000
attribute [local irreducible] inR VC RG VCn sq inS lq nq jq Wk

open Uno
theorem Sum_fc (l : List UInt8) (hb : l.length ≤ 100000000000) : FC Tryd.prog GS 99 [.ownp (stC l)] (.aggb (sha l)) (some (stC l)) := by
  unfold stC
  refine foc_ 93 ti_eq gpS Tryd.func99 (fun C hE hm hP hr9 hrn => ?_)
  have hw := stW_length l
  have hpz := padZ_lt l.length
  have hwr := wrap_inR .u64 (l.length : Int) ((inR_u64 _).2 ⟨by omega, by omega⟩)
  refine wv_ (so_ 900 8 950 0) ?_
  refine A_ ?_
  refine vl (fun z : Nat => ⟨[(0, .ptr 900 1 0), (2, .ptr 2 1 0), (3, .sl 13 (3 + z) 0 (padE l z).length)], [(900, ⟨⟨1, 1, 10⟩, some (.cells [.u32 (stH l).a, .u32 (stH l).b, .u32 (stH l).c, .u32 (stH l).d, .u32 (stH l).e, .u32 (stH l).f, .u32 (stH l).g, .u32 (stH l).k, .sl 950 1 0 (stW l).length, .int .i64 l.length])⟩), (950, ⟨⟨1, 1, (stW l).length⟩, some (.bytes (stW l))⟩), (2, ⟨⟨1, 1, 32⟩, some (.bytes (List.replicate 32 0))⟩), (13, ⟨⟨3 + z, 1, (padE l z).length⟩, some (.bytes (padE l z))⟩)], []⟩) (fun z => z ≤ padZ l.length) (fun z => padZ l.length - z) 0 ?_ (Nat.zero_le _) (fun z hz => ?_)
  · rw [padE_zero, List.length_append]
    exact wk9_ hr9
  · have hel := padE_len l z
    repeat' (first | refine A1_ ?_ | refine C_ hE (fun hc => ?_) (fun hc => ?_) <;> (try (exfalso; omega)))
    · refine lq_n (z + 1) ?_ (by unfold padZ at *; omega) (by unfold padZ at *; omega)
      rw [padE_succ, List.length_append]
      exact wk9_ hr9
    · have hze : z = padZ l.length := by unfold padZ at *; omega
      subst hze
      obtain ⟨e0, he0⟩ : ∃ e0, e0 = padE l (padZ l.length) := ⟨_, rfl⟩
      rw [← he0] at hel hc ⊢
      have h56 : e0.length % 64 = 56 := by omega
      clear hc
      rw [hwr]
      refine vl (fun i : Nat => ⟨[(0, .ptr 900 1 0), (2, .ptr 2 1 0), (3, .sl 13 (3 + padZ l.length + i) 0 (e0 ++ (len8 l.length).take i).length), (4, .int .u64 ((l.length : Int) * 8)), (34, .int .i64 i)], [(900, ⟨⟨1, 1, 10⟩, some (.cells [.u32 (stH l).a, .u32 (stH l).b, .u32 (stH l).c, .u32 (stH l).d, .u32 (stH l).e, .u32 (stH l).f, .u32 (stH l).g, .u32 (stH l).k, .sl 950 1 0 (stW l).length, .int .i64 l.length])⟩), (950, ⟨⟨1, 1, (stW l).length⟩, some (.bytes (stW l))⟩), (2, ⟨⟨1, 1, 32⟩, some (.bytes (List.replicate 32 0))⟩), (13, ⟨⟨3 + padZ l.length + i, 1, (e0 ++ (len8 l.length).take i).length⟩, some (.bytes (e0 ++ (len8 l.length).take i))⟩)], []⟩) (fun i => i ≤ 8) (fun i => 8 - i) 0 ?_ (Nat.zero_le _) (fun i hi => ?_)
      · rw [List.take_zero, List.append_nil]
        exact wk9_ hr9
      · have hei : (e0 ++ (len8 l.length).take i).length ≤ e0.length + 8 := by rw [List.length_append, List.length_take]; simp [len8]; omega
        obtain ⟨E, hE'⟩ : ∃ E, E = e0 ++ (len8 l.length).take i := ⟨_, rfl⟩
        rw [← hE'] at hei ⊢
        repeat' (first | refine A1_ ?_ | refine C_ hE (fun hc => ?_) (fun hc => ?_) <;> (try (exfalso; omega)))
        · refine lq_n (i + 1) ?_ (by omega) (by omega)
          rw [len8_at _ _ (show i < 8 by omega), ← List.append_assoc, ← hE', List.length_append]
          exact wk9_ hr9
        · obtain rfl : i = 8 := by omega
          have hEl : E.length = e0.length + 8 := by rw [hE', List.length_append, List.length_take, len8_len]; rfl
          rw [show (len8 l.length).take 8 = len8 l.length from rfl, he0] at hE'
          have hsha := sha_of_state l E hE'
          have hE64 : E.length % 64 = 0 := by omega
          clear hE' h56 he0 hi hc
          repeat' (first | refine A1_ ?_ | refine C_ hE (fun hc => ?_) (fun hc => ?_) <;> (try (exfalso; omega)))
          refine vl (fun j : Nat => ⟨[(0, .ptr 900 1 0), (2, .ptr 2 1 0), (3, .sl 13 (3 + padZ l.length + 8) (64 * j) (E.length - 64 * j)), (6, .ptr 6 1 0)], [(900, ⟨⟨1, 1, 10⟩, some (.cells [.u32 (stH l).a, .u32 (stH l).b, .u32 (stH l).c, .u32 (stH l).d, .u32 (stH l).e, .u32 (stH l).f, .u32 (stH l).g, .u32 (stH l).k, .sl 950 1 0 (stW l).length, .int .i64 l.length])⟩), (950, ⟨⟨1, 1, (stW l).length⟩, some (.bytes (stW l))⟩), (2, ⟨⟨1, 1, 32⟩, some (.bytes (List.replicate 32 0))⟩), (13, ⟨⟨3 + padZ l.length + 8, 1, E.length⟩, some (.bytes E)⟩),
            (6, ⟨⟨1, 1, 8⟩, some (.cells [.u32 (abs8 (stH l) E j).a, .u32 (abs8 (stH l) E j).b, .u32 (abs8 (stH l) E j).c, .u32 (abs8 (stH l) E j).d, .u32 (abs8 (stH l) E j).e, .u32 (abs8 (stH l) E j).f, .u32 (abs8 (stH l) E j).g, .u32 (abs8 (stH l) E j).k])⟩)], []⟩) (fun j => 64 * j ≤ E.length) (fun j => E.length - 64 * j) 0 ?_ (Nat.zero_le _) (fun j hj => ?_)
          · exact wk9_ hr9
          · repeat' (first | refine A1_ ?_ | refine C_ hE (fun hc => ?_) (fun hc => ?_) <;> (try (exfalso; omega)))
            · first | refine O_ ?_ | refine OD_ hm ?_
              refine G_ 200 hE ?_
              refine rc_ hE hP (press_at (stH l) E j (by omega)) Tryd.func116 ?_
              refine G_ 200 hE ?_
              first | refine rz ?_ | refine ZD_ ?_
              refine A_ ?_
              rw [show 64 * j + 64 = 64 * (j + 1) by omega, show E.length - 64 * j - 64 = E.length - 64 * (j + 1) by omega]
              refine lq_n (j + 1) ?_ (by omega) (by omega)
              exact wk9_ hr9
            · have hj2 : j = E.length / 64 := by omega
              rw [← hj2] at hsha
              rw [hsha]
              generalize abs8 (stH l) E j = h at *
              refine A_ ?_
              refine vl (fun i : Nat => ⟨[(0, .ptr 900 1 0), (2, .ptr 2 1 0), (7, .ptr 7 1 0), (60, .agg [.u32 h.a, .u32 h.b, .u32 h.c, .u32 h.d, .u32 h.e, .u32 h.f, .u32 h.g, .u32 h.k]), (61, .int .i64 i)], [(900, ⟨⟨1, 1, 10⟩, some (.cells [.u32 (stH l).a, .u32 (stH l).b, .u32 (stH l).c, .u32 (stH l).d, .u32 (stH l).e, .u32 (stH l).f, .u32 (stH l).g, .u32 (stH l).k, .sl 950 1 0 (stW l).length, .int .i64 l.length])⟩), (950, ⟨⟨1, 1, (stW l).length⟩, some (.bytes (stW l))⟩), (2, ⟨⟨1, 1, 32⟩, some (.bytes (List.replicate 32 0))⟩), (7, ⟨⟨1, 1, 32⟩, some (.bytes (outT h i))⟩)], []⟩) (fun i => i ≤ 8) (fun i => 8 - i) 0 ?_ (Nat.zero_le _) (fun i hi => ?_)
              · exact wk9_ hr9
              · have hol := outT_len h i hi
                repeat' (first | refine A1_ ?_ | refine C_ hE (fun hc => ?_) (fun hc => ?_) <;> (try (exfalso; omega)))
                · have hg : [D.u32 h.a, .u32 h.b, .u32 h.c, .u32 h.d, .u32 h.e, .u32 h.f, .u32 h.g, .u32 h.k].getD ((i : Int).toNat * 1) .bot = .u32 (h.at_ i) := by rw [Int.toNat_natCast, Nat.mul_one]; exact h8_get h i (by omega)
                  first | refine O_ ?_ | refine OD_ hm ?_
                  refine G_ 1 hE ?_
                  refine L_ hE ?_ (hd := by exact hg) (hg := by simp only [hg]; exact sg_)
                  refine G_ 200 hE ?_
                  first | refine rz ?_ | refine ZD_ ?_
                  refine A_ ?_
                  rw [show (4 * (i : Int) + 3).toNat = 4 * i + 3 by omega, show (4 * (i : Int) + 2).toNat = 4 * i + 2 by omega, show (4 * (i : Int) + 1).toNat = 4 * i + 1 by omega, show (4 * (i : Int)).toNat = 4 * i by omega, outT_succ h i (by omega)]
                  refine lq_n (i + 1) ?_ (by omega) (by omega)
                  exact wk9_ hr9
                · obtain rfl : i = 8 := by omega
                  rw [outT_end] at hol ⊢
                  repeat' (first | refine A1_ ?_ | refine C_ hE (fun hc => ?_) (fun hc => ?_) <;> (try (exfalso; omega)))
                  exact retrc_
end Go.Proofs.YtocfhkmdkdjinaaDoor

/- hash's Of; the reference's All. Printed by wp.py. -/
namespace Go.Proofs.YtocfhkmdkdjinaaDoor
open Go Go.RowKit
set_option linter.unusedVariables false
set_option linter.unusedSimpArgs false
set_option maxRecDepth 100000
set_option maxHeartbeats 4000000
attribute [local irreducible] inR VC RG VCn sq inS lq nq jq Wk

theorem stC_len (l : List UInt8) : (stC l).length = 10 := rfl
attribute [local simp] sha_length stC_len

open Uno
theorem Of_fc (ps : List (List UInt8)) (hn : ps.length ≤ 1000000) (hb : ps.flatten.length ≤ 100000000000) : FC Tryd.prog GS 78 [.rof 1 ps.length (fun i _ => .rob (ps.getD i []))] (.aggb (sha ps.flatten)) none := by
  refine fic_ 10 ti_eq gpS Tryd.func78 (fun C hE hm hP hrc hrn => ?_)
  refine A_ ?_
  first | refine O_ ?_ | refine OD_ hm ?_
  refine G_ 200 hE ?_
  refine rc_ hE hP (New_fc) Tryd.func96 ?_
  refine G_ 200 hE ?_
  first | refine rz ?_ | refine ZD_ ?_
  refine A_ ?_
  first | refine O_ ?_ | refine OD_ hm ?_
  refine G_ 200 hE ?_
  refine rc_ hE hP (Put_fc [] ps hn (by simpa using hb)) Tryd.func97 ?_
  refine G_ 200 hE ?_
  first | refine rz ?_ | refine ZD_ ?_
  refine A_ ?_
  first | refine O_ ?_ | refine OD_ hm ?_
  refine G_ 200 hE ?_
  refine rc_ hE hP (Sum_fc ps.flatten hb) Tryd.func99 ?_
  refine G_ 200 hE ?_
  first | refine rz ?_ | refine ZD_ ?_
  refine A_ ?_
  exact retc_

end Go.Proofs.YtocfhkmdkdjinaaDoor

/- Put and Of, of a few parts. -/
namespace Go.Proofs.YtocfhkmdkdjinaaDoor
open Go Go.RowKit
set_option linter.unusedVariables false
set_option linter.unusedSimpArgs false
set_option maxRecDepth 100000
set_option maxHeartbeats 4000000
attribute [local irreducible] inR VC RG VCn sq inS lq nq jq Wk
attribute [local irreducible] sha stH stW abs8
attribute [local simp] sha_length stC_len

theorem sha_take (l : List UInt8) : List.take 32 (sha l) = sha l := List.take_of_length_le (by rw [sha_length]; decide)
theorem stC_fr (l : List UInt8) : (stC l).all D.fr0 = true := rfl
theorem Put1_fc (l p : List UInt8) (hb : l.length + p.length ≤ 100000000000) : FC Tryd.prog GS 97 [.ownp (stC l), .rof 1 [p].length (fun i _ => .rob ([p].getD i []))] (.tup []) (some (stC (l ++ p))) := by
  have h := Put_fc l [p] (by simp) (by simpa using hb)
  rw [show [p].flatten = p by simp] at h
  exact h
theorem Put2_fc (l p q : List UInt8) (hb : l.length + (p.length + q.length) ≤ 100000000000) : FC Tryd.prog GS 97 [.ownp (stC l), .rof 1 [p, q].length (fun i _ => .rob ([p, q].getD i []))] (.tup []) (some (stC (l ++ (p ++ q)))) := by
  have h := Put_fc l [p, q] (by simp) (by simpa using hb)
  rw [show [p, q].flatten = p ++ q by simp] at h
  exact h
theorem Of1_fc (p : List UInt8) (hb : p.length ≤ 100000000000) : FC Tryd.prog GS 78 [.rof 1 [p].length (fun i _ => .rob ([p].getD i []))] (.aggb (sha p)) none := by
  have h := Of_fc [p] (by simp) (by simpa using hb)
  rw [show [p].flatten = p by simp] at h
  exact h
theorem Of2_fc (p q : List UInt8) (hb : p.length + q.length ≤ 100000000000) : FC Tryd.prog GS 78 [.rof 1 [p, q].length (fun i _ => .rob ([p, q].getD i []))] (.aggb (sha (p ++ q))) none := by
  have h := Of_fc [p, q] (by simp) (by simpa using hb)
  rw [show [p, q].flatten = p ++ q by simp] at h
  exact h
theorem Of3_fc (p q r : List UInt8) (hb : p.length + (q.length + r.length) ≤ 100000000000) : FC Tryd.prog GS 78 [.rof 1 [p, q, r].length (fun i _ => .rob ([p, q, r].getD i []))] (.aggb (sha (p ++ (q ++ r)))) none := by
  have h := Of_fc [p, q, r] (by simp) (by simpa using hb)
  rw [show [p, q, r].flatten = p ++ (q ++ r) by simp] at h
  exact h

end Go.Proofs.YtocfhkmdkdjinaaDoor

/- mac's pad. Printed by wp.py. -/
namespace Go.Proofs.YtocfhkmdkdjinaaDoor
open Go Go.RowKit
set_option linter.unusedVariables false
set_option linter.unusedSimpArgs false
set_option maxRecDepth 100000
set_option maxHeartbeats 4000000
attribute [local irreducible] inR VC RG VCn sq inS lq nq jq Wk
attribute [local irreducible] sha stH stW abs8

/-- A key as long as a block; so many of its bytes put together with a byte. -/
def kz (k : List UInt8) : List UInt8 := k ++ List.replicate (64 - k.length) 0
theorem kz_len {k : List UInt8} (h : k.length ≤ 64) : (kz k).length = 64 := by simp [kz]; omega
def padT (k : List UInt8) (x : UInt8) (i : Nat) : List UInt8 := ((kz k).take i).map (fun b => b ^^^ x) ++ (kz k).drop i
def padK (k : List UInt8) (x : UInt8) : List UInt8 := (kz k).map (fun b => b ^^^ x)
theorem padT_zero (k : List UInt8) (x : UInt8) : padT k x 0 = kz k := by simp [padT]
theorem padT_len (k : List UInt8) (x : UInt8) (i : Nat) (h : k.length ≤ 64) : (padT k x i).length = 64 := by
  have := kz_len h
  simp [padT]
  omega
theorem padT_end (k : List UInt8) (x : UInt8) (h : k.length ≤ 64) : padT k x 64 = padK k x := by
  have := kz_len h
  unfold padT padK
  rw [List.take_of_length_le (by omega), List.drop_of_length_le (by omega), List.append_nil]
theorem padT_set (k : List UInt8) (x : UInt8) {i : Nat} (h : k.length ≤ 64) (hi : i < 64) : (padT k x i).set i (gb (padT k x i) i ^^^ x) = padT k x (i + 1) := by
  have hk := kz_len h
  have hl : (((kz k).take i).map (fun b => b ^^^ x)).length = i := by simp; omega
  have hd : (kz k).drop i = (kz k)[i]'(by omega) :: (kz k).drop (i + 1) := List.drop_eq_getElem_cons (by omega)
  have hg : gb (padT k x i) i = (kz k)[i]'(by omega) := by
    unfold gb padT
    rw [hd, List.getD_eq_getElem?_getD, List.getElem?_append_right (by omega), hl]
    simp [List.getElem?_eq_getElem (show i < (kz k).length by omega)]
  rw [hg]
  unfold padT
  rw [hd, List.set_append_right _ _ (by omega), hl, Nat.sub_self, List.set_cons_zero, List.take_add_one, List.getElem?_eq_getElem (by omega), List.map_append, List.append_assoc]
  rfl
theorem kz_def (k : List UInt8) : kz k = k ++ List.replicate (64 - k.length) 0 := rfl
theorem padK_def (k : List UInt8) (x : UInt8) : padK k x = (kz k).map (fun b => b ^^^ x) := rfl
attribute [local irreducible] kz padT padK

namespace Upad_fc
theorem U : type_of% @sha_take ∧ type_of% @sha_length ∧ type_of% (@drop_rep UInt8) ∧ type_of% (@drop_rep D) ∧ type_of% (@List.take_zero UInt8) ∧ type_of% (@List.take_zero D) ∧ type_of% @kz_len := ⟨@sha_take, @sha_length, (@drop_rep UInt8), (@drop_rep D), (@List.take_zero UInt8), (@List.take_zero D), @kz_len⟩
end Upad_fc
open Upad_fc
theorem pad_fc (k : List UInt8) (x : UInt8) (hk : k.length ≤ 64) : FC Tryd.prog GS 98 [.rob k, .u8 x] (.ownb (padK k x)) none := by
  refine fi_ 25 [4] ti_eq gpS Tryd.func98 (fun C hE hm hP hrc hrn => ?_)
  have hz := kz_len hk
  refine A_ ?_
  rw [show List.take 64 k ++ List.drop (min k.length 64) (List.replicate 64 0) = kz k by rw [kz_def, List.take_of_length_le hk, Nat.min_eq_left hk, List.drop_replicate], ← padT_zero k x]
  refine vl (fun i : Nat => ⟨[(1, .u8 x), (5, .sl 7 1 0 64), (12, .int .i64 64), (13, .int .i64 i)], [(7, ⟨⟨1, 1, 64⟩, some (.bytes (padT k x i))⟩)], []⟩) (fun i => i ≤ 64) (fun i => 64 - i) 0 ?_ (Nat.zero_le _) (fun i hi => ?_)
  · exact wk_ hrc
  · have hl := padT_len k x i hk
    repeat' (first | refine A1_ ?_ | refine C_ hE (fun hc => ?_) (fun hc => ?_) <;> (try (exfalso; omega)))
    · rw [padT_set k x hk (show i < 64 by omega)]
      refine lq_n (i + 1) ?_ (by omega) (by omega)
      exact wk_ hrc
    · obtain rfl : i = 64 := by omega
      rw [padT_end k x hk] at hl ⊢
      repeat' (first | refine A1_ ?_ | refine C_ hE (fun hc => ?_) (fun hc => ?_) <;> (try (exfalso; omega)))
      exact ret_
end Go.Proofs.YtocfhkmdkdjinaaDoor

/- mac's Of and Extract. Printed by wp.py. -/
namespace Go.Proofs.YtocfhkmdkdjinaaDoor
open Go Go.RowKit
set_option linter.unusedVariables false
set_option linter.unusedSimpArgs false
set_option maxRecDepth 100000
set_option maxHeartbeats 4000000
attribute [local irreducible] inR VC RG VCn sq inS lq nq jq Wk
attribute [local irreducible] sha stH stW abs8

theorem padK_len {k : List UInt8} (x : UInt8) (h : k.length ≤ 64) : (padK k x).length = 64 := by
  have := kz_len h
  unfold padK
  simp [this]
theorem kz_get (k : List UInt8) (i : Nat) (h : i < 64) : (kz k).getD i 0 = if i < k.length then gb k i else 0 := by
  rw [kz_def]
  unfold gb
  split
  · rename_i hi
    rw [List.getD_eq_getElem?_getD, List.getElem?_append_left hi, List.getD_eq_getElem?_getD]
  · rename_i hi
    rw [List.getD_eq_getElem?_getD, List.getElem?_append_right (by omega), List.getElem?_replicate]
    split <;> rfl
theorem padK_get (k : List UInt8) (x : UInt8) (i : Nat) (hk : k.length ≤ 64) (h : i < 64) : (padK k x).take (i + 1) = (padK k x).take i ++ [(if i < k.length then gb k i else 0) ^^^ x] := by
  have hl := padK_len x hk
  have hz := kz_len hk
  rw [List.take_add_one, List.getElem?_eq_getElem (by omega), ← kz_get k i h, List.getD_eq_getElem?_getD, List.getElem?_eq_getElem (by omega)]
  congr 1
  have e : (padK k x)[i]'(by omega) = ((kz k).map (fun b => b ^^^ x))[i]'(by simp; omega) := by
    congr 1
  rw [e, List.getElem_map, Option.toList_some, Option.getD_some]
theorem padK_tl (k : List UInt8) (x : UInt8) (i : Nat) (hk : k.length ≤ 64) (h : i ≤ 64) : ((padK k x).take i).length = i := by
  have hl := padK_len x hk
  rw [List.length_take]
  omega

/-- A key that fits a block; a mark by it. -/
def kfit (k : List UInt8) : List UInt8 := if 64 < k.length then sha k else k
def hm (k m : List UInt8) : List UInt8 := sha (padK (kfit k) 92 ++ sha (padK (kfit k) 54 ++ m))
theorem kfit_big {k : List UInt8} (h : 64 < k.length) : kfit k = sha k := if_pos h
theorem kfit_small {k : List UInt8} (h : ¬64 < k.length) : kfit k = k := if_neg h
theorem kfit_le (k : List UInt8) : (kfit k).length ≤ 64 := by
  unfold kfit
  split
  · rw [sha_length]; decide
  · omega
theorem hm_length (k m : List UInt8) : (hm k m).length = 32 := sha_length _
theorem hm_def (k q m : List UInt8) (h : q = kfit k) : hm k m = sha (padK q 92 ++ sha (padK q 54 ++ m)) := by subst h; rfl
attribute [local simp] sha_length stC_len

namespace UmOf_fc
theorem U : type_of% @stC_len ∧ type_of% @sha_take ∧ type_of% @sha_length ∧ type_of% (@drop_rep UInt8) ∧ type_of% (@drop_rep D) ∧ type_of% (@List.take_zero UInt8) ∧ type_of% (@List.take_zero D) ∧ type_of% @padK_len := ⟨@stC_len, @sha_take, @sha_length, (@drop_rep UInt8), (@drop_rep D), (@List.take_zero UInt8), (@List.take_zero D), @padK_len⟩
end UmOf_fc
open UmOf_fc
theorem mOf_fc (k : List UInt8) (ps : List (List UInt8)) (hk : k.length ≤ 10000000) (hn : ps.length ≤ 1000000) (hb : ps.flatten.length ≤ 10000000000) : FC Tryd.prog GS 60 [.rob k, .rof 1 ps.length (fun i _ => .rob (ps.getD i []))] (.aggb (hm k ps.flatten)) none := by
  refine fic_ 31 ti_eq gpS Tryd.func60 (fun C hE hm hP hrc hrn => ?_)
  by_cases hk64 : 64 < k.length
  · have hq := hm_def k (sha k) ps.flatten (by unfold kfit; rw [if_pos hk64])
    have h32 : (sha k).length ≤ 64 := by rw [sha_length]; decide
    have hp1 := padK_len 54 h32
    have hp2 := padK_len 92 h32
    rw [hq]
    clear hq
    repeat' (first | refine A1_ ?_ | refine C_ hE (fun hc => ?_) (fun hc => ?_) <;> (try (exfalso; omega)))
    first | refine O_ ?_ | refine OD_ hm ?_
    refine G_ 200 hE ?_
    refine rc_ hE hP (Of1_fc k (by omega)) Tryd.func78 ?_
    refine G_ 200 hE ?_
    first | refine rz ?_ | refine ZD_ ?_
    refine A_ ?_
    repeat' (first | refine A1_ ?_ | refine C_ hE (fun hc => ?_) (fun hc => ?_) <;> (try (exfalso; omega)))
    first | refine O_ ?_ | refine OD_ hm ?_
    refine G_ 200 hE ?_
    refine rc_ hE hP (New_fc) Tryd.func96 ?_
    refine G_ 200 hE ?_
    first | refine rz ?_ | refine ZD_ ?_
    refine A_ ?_
    first | refine O_ ?_ | refine OD_ hm ?_
    refine G_ 200 hE ?_
    refine rc_ hE hP (pad_fc (sha k) 54 h32) Tryd.func98 ?_
    refine G_ 1 hE ?_
    refine rc_ hE hP (Put1_fc [] (padK (sha k) 54) (by simp; omega)) Tryd.func97 ?_
    refine G_ 200 hE ?_
    first | refine rz ?_ | refine ZD_ ?_
    refine A_ ?_
    first | refine O_ ?_ | refine OD_ hm ?_
    refine G_ 200 hE ?_
    refine rc_ hE hP (Put_fc (padK (sha k) 54) ps hn (by omega)) Tryd.func97 ?_
    refine G_ 200 hE ?_
    first | refine rz ?_ | refine ZD_ ?_
    refine A_ ?_
    first | refine O_ ?_ | refine OD_ hm ?_
    refine G_ 200 hE ?_
    refine rc_ hE hP (Sum_fc (padK (sha k) 54 ++ ps.flatten) (by rw [List.length_append]; omega)) Tryd.func99 ?_
    refine G_ 200 hE ?_
    first | refine rz ?_ | refine ZD_ ?_
    refine A_ ?_
    first | refine O_ ?_ | refine OD_ hm ?_
    refine G_ 200 hE ?_
    refine rc_ hE hP (pad_fc (sha k) 92 h32) Tryd.func98 ?_
    refine G_ 2 hE ?_
    refine rc_ hE hP (Of2_fc (padK (sha k) 92) (sha (padK (sha k) 54 ++ ps.flatten)) (by simp; omega)) Tryd.func78 ?_
    refine G_ 200 hE ?_
    first | refine rz ?_ | refine ZD_ ?_
    refine A_ ?_
    exact retc_
  · have hq := hm_def k k ps.flatten (by unfold kfit; rw [if_neg hk64])
    have hp1 := padK_len 54 (show k.length ≤ 64 by omega)
    have hp2 := padK_len 92 (show k.length ≤ 64 by omega)
    rw [hq]
    clear hq
    repeat' (first | refine A1_ ?_ | refine C_ hE (fun hc => ?_) (fun hc => ?_) <;> (try (exfalso; omega)))
    first | refine O_ ?_ | refine OD_ hm ?_
    refine G_ 200 hE ?_
    refine rc_ hE hP (New_fc) Tryd.func96 ?_
    refine G_ 200 hE ?_
    first | refine rz ?_ | refine ZD_ ?_
    refine A_ ?_
    first | refine O_ ?_ | refine OD_ hm ?_
    refine G_ 200 hE ?_
    refine rc_ hE hP (pad_fc k 54 (by omega)) Tryd.func98 ?_
    refine G_ 1 hE ?_
    refine rc_ hE hP (Put1_fc [] (padK k 54) (by simp; omega)) Tryd.func97 ?_
    refine G_ 200 hE ?_
    first | refine rz ?_ | refine ZD_ ?_
    refine A_ ?_
    first | refine O_ ?_ | refine OD_ hm ?_
    refine G_ 200 hE ?_
    refine rc_ hE hP (Put_fc (padK k 54) ps hn (by omega)) Tryd.func97 ?_
    refine G_ 200 hE ?_
    first | refine rz ?_ | refine ZD_ ?_
    refine A_ ?_
    first | refine O_ ?_ | refine OD_ hm ?_
    refine G_ 200 hE ?_
    refine rc_ hE hP (Sum_fc (padK k 54 ++ ps.flatten) (by rw [List.length_append]; omega)) Tryd.func99 ?_
    refine G_ 200 hE ?_
    first | refine rz ?_ | refine ZD_ ?_
    refine A_ ?_
    first | refine O_ ?_ | refine OD_ hm ?_
    refine G_ 200 hE ?_
    refine rc_ hE hP (pad_fc k 92 (by omega)) Tryd.func98 ?_
    refine G_ 2 hE ?_
    refine rc_ hE hP (Of2_fc (padK k 92) (sha (padK k 54 ++ ps.flatten)) (by simp; omega)) Tryd.func78 ?_
    refine G_ 200 hE ?_
    first | refine rz ?_ | refine ZD_ ?_
    refine A_ ?_
    exact retc_

theorem mOf1_fc (k p : List UInt8) (hk : k.length ≤ 10000000) (hb : p.length ≤ 10000000000) : FC Tryd.prog GS 60 [.rob k, .rof 1 [p].length (fun i _ => .rob ([p].getD i []))] (.aggb (hm k p)) none := by
  have h := mOf_fc k [p] hk (by simp) (by simpa using hb)
  rw [show [p].flatten = p by simp] at h
  exact h
attribute [local simp] hm_length
attribute [local irreducible] hm

end Go.Proofs.YtocfhkmdkdjinaaDoor
