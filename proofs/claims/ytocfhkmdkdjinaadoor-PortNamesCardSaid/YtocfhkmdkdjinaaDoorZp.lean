/- What the claim leans on, text Zp: Md3. No condition beyond what each lemma states. -/
import Derived.Test.YtocfhkmdkdjinaaDoorZd
import Derived.Test.YtocfhkmdkdjinaaDoorZt
import Derived.Test.YtocfhkmdkdjinaaDoorZq

/- MD5 as the reference says it. Printed by wp.py. -/
namespace Go.Proofs.YtocfhkmdkdjinaaDoor
open Go Go.RowKit
set_option linter.unusedVariables false
set_option linter.unusedSimpArgs false
set_option maxRecDepth 100000
set_option maxHeartbeats 4000000
attribute [local irreducible] inR VC RG VCn sq inS lq nq jq Wk
attribute [local simp] wsG_nm wsG_len wsG_sc wsG_fr

open Uno
theorem rsines_fc  : FC Tryd.prog GE 113 [] (.agg (sinesL.map D.u32)) none := by
  refine fic_ 2 ti_eq gpE Tryd.func113 (fun C hE hm hP hrc hrn => ?_)
  refine vs ?_
  refine R_ hE ?_
  refine sq_n ?_
  refine vs ?_
  first | refine O_ ?_ | refine OD_ hm ?_
  apply r1 (d1 := .agg (sinesL.map D.u32)) hE rfl rfl rfl
  · kernel_rfl
  · refine ⟨rfl, rfl, by decide, fun h => absurd h (by decide), ?_⟩
    repeat (refine ⟨rfl, Nat.le_of_ble_eq_true (by kernel_rfl), rfl, ?_⟩)
    exact trivial
  · rfl
  apply r1 hE rfl rfl rfl
  · rfl
  · exact ⟨rfl, Nat.le_of_ble_eq_true (by kernel_rfl), by kernel_rfl, by kernel_rfl, Nat.le_of_ble_eq_true (by kernel_rfl)⟩
  · rfl
  first | refine rz ?_ | refine ZD_ ?_
  refine sq_n ?_
  refine vc_ret ?_
  apply fn_rc (d' := .agg (sinesL.map D.u32)) rfl
  · kernel_rfl
  · exact ⟨rfl, Nat.le_of_ble_eq_true (by kernel_rfl), by kernel_rfl, fun h => absurd h (by decide)⟩
  · rfl
  apply fin0 rfl
  · apply mat1 rfl
    exact mat_eq rfl rfl
  · decide
  · decide

theorem rsines_fcE : FC Tryd.prog GE 113 [] (.agg (wsG 64 sat)) none := by rw [← sines_ws]; exact rsines_fc
attribute [local irreducible] st4 add4 mfn mgn sat tat lword rol32 shl32 shr32 abs4 md low8

theorem rturns_fc (i : Nat) (hi : i < 64) : FC Tryd.prog GE 114 [.int .i64 i] (.int .i64 (tat i : Int)) none := by
  refine fi_ 16 [2] ti_eq gpE Tryd.func114 (fun C hE hm hP hrc hrn => ?_)
  have hg := turn_get i hi
  refine A_ ?_
  first | refine O_ ?_ | refine OD_ hm ?_
  refine G_ 6 hE ?_
  refine L_ hE ?_ (hd := by exact hg) (hg := by simp only [hg]; exact sg_)
  refine G_ 200 hE ?_
  first | refine rz ?_ | refine ZD_ ?_
  refine A_ ?_
  exact ret_

theorem rMd_fc (l : List UInt8) (hb : l.length ≤ 100000000000) : FC Tryd.prog GE 87 [.str l] (.str (md l)) none := by
  refine fi_ 226 [2] ti_eq gpE Tryd.func87 (fun C hE hm hP hrc hrn => ?_)
  have hpz := padZ_lt l.length
  have hwr := wrap_inR .u64 (l.length : Int) ((inR_u64 _).2 ⟨by omega, by omega⟩)
  refine A_ ?_
  refine vl (fun z : Nat => ⟨[(0, .str l), (3, .sl 20 (2 + z) 0 (padR l z).length)], [(20, ⟨⟨2 + z, 1, (padR l z).length⟩, some (.bytes (padR l z))⟩)], []⟩) (fun z => z ≤ padZ l.length) (fun z => padZ l.length - z) 0 ?_ (Nat.zero_le _) (fun z hz => ?_)
  · rw [padR_zero, List.length_append]
    exact wk_ hrc
  · have hel := padR_len l z
    repeat' (first | refine A1_ ?_ | refine C_ hE (fun hc => ?_) (fun hc => ?_) <;> (try (exfalso; omega)))
    · refine lq_n (z + 1) ?_ (by unfold padZ at *; omega) (by unfold padZ at *; omega)
      rw [padR_succ, List.length_append]
      exact wk_ hrc
    · have hze : z = padZ l.length := by unfold padZ at *; omega
      subst hze
      obtain ⟨e0, he0⟩ : ∃ e0, e0 = padR l (padZ l.length) := ⟨_, rfl⟩
      rw [← he0] at hel hc ⊢
      have h56 : e0.length % 64 = 56 := by omega
      clear hc
      rw [hwr]
      refine vl (fun i : Nat => ⟨[(3, .sl 20 (2 + padZ l.length + i) 0 (e0 ++ (low8 l.length).take i).length), (4, .int .u64 ((l.length : Int) * 8)), (5, .int .i64 (8 * (i : Int)))], [(20, ⟨⟨2 + padZ l.length + i, 1, (e0 ++ (low8 l.length).take i).length⟩, some (.bytes (e0 ++ (low8 l.length).take i))⟩)], []⟩) (fun i => i ≤ 8) (fun i => 8 - i) 0 ?_ (Nat.zero_le _) (fun i hi => ?_)
      · rw [List.take_zero, List.append_nil]
        exact wk_ hrc
      · have hei : (e0 ++ (low8 l.length).take i).length ≤ e0.length + 8 := by rw [List.length_append, List.length_take, low8_len]; omega
        obtain ⟨E, hE'⟩ : ∃ E, E = e0 ++ (low8 l.length).take i := ⟨_, rfl⟩
        rw [← hE'] at hei ⊢
        repeat' (first | refine A1_ ?_ | refine C_ hE (fun hc => ?_) (fun hc => ?_) <;> (try (exfalso; omega)))
        · refine lq_n (i + 1) ?_ (by omega) (by omega)
          rw [low8_at _ _ (show i < 8 by omega), ← List.append_assoc, ← hE', List.length_append, show 8 * (i : Int) + 8 = 8 * ((i + 1 : Nat) : Int) by omega]
          exact wk_ hrc
        · obtain rfl : i = 8 := by omega
          have hEl : E.length = e0.length + 8 := by rw [hE', List.length_append, List.length_take, low8_len]; rfl
          rw [List.take_of_length_le (show (low8 l.length).length ≤ 8 by rw [low8_len]; exact Nat.le_refl _), he0, padR_padM] at hE'
          have hE64 : E.length % 64 = 0 := by omega
          have hmd := md_pad l E hE'
          clear hE' h56 he0 hi hc
          refine A_ ?_
          first | refine O_ ?_ | refine OD_ hm ?_
          refine rc_ hE hP (rsines_fcE) Tryd.func113 ?_
          refine G_ 200 hE ?_
          first | refine rz ?_ | refine ZD_ ?_
          refine A_ ?_
          refine vl (fun j : Nat => ⟨[(3, .sl 20 (2 + padZ l.length + 8) 0 E.length), (6, .ptr 6 1 0), (7, .ptr 7 1 0), (8, .int .i64 ((64 * j : Nat) : Int))], [(20, ⟨⟨2 + padZ l.length + 8, 1, E.length⟩, some (.bytes E)⟩), (6, ⟨⟨1, 1, 64⟩, some (.cells (wsG 64 sat))⟩), (7, ⟨⟨1, 1, 4⟩, some (.cells [.u32 (abs4 start4 E j).a, .u32 (abs4 start4 E j).b, .u32 (abs4 start4 E j).c, .u32 (abs4 start4 E j).d])⟩)], []⟩) (fun j => 64 * j ≤ E.length) (fun j => E.length - 64 * j) 0 ?_ (Nat.zero_le _) (fun j hj => ?_)
          · rw [abs4_zero]
            exact wk_ hrc
          · repeat' (first | refine A1_ ?_ | refine C_ hE (fun hc => ?_) (fun hc => ?_) <;> (try (exfalso; omega)))
            · have hj64 : 64 * j + 64 ≤ E.length := by omega
              refine vl (fun i : Nat => ⟨[(3, .sl 20 (2 + padZ l.length + 8) 0 E.length), (6, .ptr 6 1 0), (7, .ptr 7 1 0), (8, .int .i64 ((64 * j : Nat) : Int)), (9, .ptr 9 1 0), (10, .int .i64 i)], [(20, ⟨⟨2 + padZ l.length + 8, 1, E.length⟩, some (.bytes E)⟩), (6, ⟨⟨1, 1, 64⟩, some (.cells (wsG 64 sat))⟩), (7, ⟨⟨1, 1, 4⟩, some (.cells [.u32 (abs4 start4 E j).a, .u32 (abs4 start4 E j).b, .u32 (abs4 start4 E j).c, .u32 (abs4 start4 E j).d])⟩),
                (9, ⟨⟨1, 1, 4⟩, some (.cells [.u32 (st4 (abs4 start4 E j) (E.drop (64 * j)) i).a, .u32 (st4 (abs4 start4 E j) (E.drop (64 * j)) i).b, .u32 (st4 (abs4 start4 E j) (E.drop (64 * j)) i).c, .u32 (st4 (abs4 start4 E j) (E.drop (64 * j)) i).d])⟩)], []⟩) (fun i => i ≤ 64) (fun i => 64 - i) 0 ?_ (Nat.zero_le _) (fun i hi => ?_)
              · rw [st4_zero]
                exact wk_ hrc
              · by_cases hlt : i < 64
                · obtain ⟨V, hV⟩ : ∃ V, V = st4 (abs4 start4 E j) (E.drop (64 * j)) i := ⟨_, rfl⟩
                  have hst := st4_ref (abs4 start4 E j) (E.drop (64 * j)) i V hV
                  have hmg := mgn_lt i
                  have htu := turns_pos i hlt
                  have hwl := wsG_len 64 sat
                  have ws : (wsG 64 sat).getD i .bot = .u32 (sat i) := wsG_get hlt
                  rw [← hV]
                  refine A_ ?_
                  rcases (show i < 16 ∨ (¬ i < 16 ∧ i < 32) ∨ (¬ i < 32 ∧ i < 48) ∨ ¬ i < 48 by omega) with h0 | ⟨h0, h0'⟩ | ⟨h0, h0'⟩ | h0
                  · have hgI : (i : Int) = (mgn i : Int) := by rw [mgn0 h0]; omega
                    have hf := mfn0r V h0
                    repeat' (first | refine A1_ ?_ | refine C_ hE (fun hc => ?_) (fun hc => ?_) <;> (try (exfalso; omega)))
                    rw [← hf, show ((64 * j : Nat) + 4 * (i : Int)).toNat = 64 * j + 4 * mgn i by omega, show ((64 * j : Nat) + 4 * (i : Int) + 1).toNat = 64 * j + 4 * mgn i + 1 by omega, show ((64 * j : Nat) + 4 * (i : Int) + 2).toNat = 64 * j + 4 * mgn i + 2 by omega, show ((64 * j : Nat) + 4 * (i : Int) + 3).toNat = 64 * j + 4 * mgn i + 3 by omega, mword_at]
                    first | refine O_ ?_ | refine OD_ hm ?_
                    refine G_ 6 hE ?_
                    refine L_ hE ?_ (hd := by exact ws) (hg := by simp only [ws]; exact sg_)
                    refine G_ 200 hE ?_
                    first | refine rz ?_ | refine ZD_ ?_
                    have hst := hst _ rfl
                    generalize V.a + mfn i V + sat i + lword (E.drop (64 * j)) (4 * mgn i) = F at hst ⊢
                    refine A_ ?_
                    first | refine O_ ?_ | refine OD_ hm ?_
                    refine G_ 2 hE ?_
                    refine rc_ hE hP (rturns_fc i hlt) Tryd.func114 ?_
                    refine G_ 3 hE ?_
                    refine rc_ hE hP (rturns_fc i hlt) Tryd.func114 ?_
                    refine G_ 200 hE ?_
                    first | refine rz ?_ | refine ZD_ ?_
                    rw [show (32 - (tat i : Int)).toNat = 32 - tat i by omega, ← rol_eq]
                    refine A_ ?_
                    refine lq_n (i + 1) ?_ (by omega) (by omega)
                    rw [hst]
                    exact wk_ hrc
                  · have hgI : (5 * (i : Int) + 1) % 16 = (mgn i : Int) := by rw [mgn1 h0 h0']; omega
                    have hf := mfn1r V h0 h0'
                    repeat' (first | refine A1_ ?_ | refine C_ hE (fun hc => ?_) (fun hc => ?_) <;> (try (exfalso; omega)))
                    rw [hgI, ← hf, show ((64 * j : Nat) + 4 * (mgn i : Int)).toNat = 64 * j + 4 * mgn i by omega, show ((64 * j : Nat) + 4 * (mgn i : Int) + 1).toNat = 64 * j + 4 * mgn i + 1 by omega, show ((64 * j : Nat) + 4 * (mgn i : Int) + 2).toNat = 64 * j + 4 * mgn i + 2 by omega, show ((64 * j : Nat) + 4 * (mgn i : Int) + 3).toNat = 64 * j + 4 * mgn i + 3 by omega, mword_at]
                    first | refine O_ ?_ | refine OD_ hm ?_
                    refine G_ 6 hE ?_
                    refine L_ hE ?_ (hd := by exact ws) (hg := by simp only [ws]; exact sg_)
                    refine G_ 200 hE ?_
                    first | refine rz ?_ | refine ZD_ ?_
                    have hst := hst _ rfl
                    generalize V.a + mfn i V + sat i + lword (E.drop (64 * j)) (4 * mgn i) = F at hst ⊢
                    refine A_ ?_
                    first | refine O_ ?_ | refine OD_ hm ?_
                    refine G_ 2 hE ?_
                    refine rc_ hE hP (rturns_fc i hlt) Tryd.func114 ?_
                    refine G_ 3 hE ?_
                    refine rc_ hE hP (rturns_fc i hlt) Tryd.func114 ?_
                    refine G_ 200 hE ?_
                    first | refine rz ?_ | refine ZD_ ?_
                    rw [show (32 - (tat i : Int)).toNat = 32 - tat i by omega, ← rol_eq]
                    refine A_ ?_
                    refine lq_n (i + 1) ?_ (by omega) (by omega)
                    rw [hst]
                    exact wk_ hrc
                  · have hgI : (3 * (i : Int) + 5) % 16 = (mgn i : Int) := by rw [mgn2 h0 h0']; omega
                    have hf := mfn2 V h0 h0'
                    repeat' (first | refine A1_ ?_ | refine C_ hE (fun hc => ?_) (fun hc => ?_) <;> (try (exfalso; omega)))
                    rw [hgI, ← hf, show ((64 * j : Nat) + 4 * (mgn i : Int)).toNat = 64 * j + 4 * mgn i by omega, show ((64 * j : Nat) + 4 * (mgn i : Int) + 1).toNat = 64 * j + 4 * mgn i + 1 by omega, show ((64 * j : Nat) + 4 * (mgn i : Int) + 2).toNat = 64 * j + 4 * mgn i + 2 by omega, show ((64 * j : Nat) + 4 * (mgn i : Int) + 3).toNat = 64 * j + 4 * mgn i + 3 by omega, mword_at]
                    first | refine O_ ?_ | refine OD_ hm ?_
                    refine G_ 6 hE ?_
                    refine L_ hE ?_ (hd := by exact ws) (hg := by simp only [ws]; exact sg_)
                    refine G_ 200 hE ?_
                    first | refine rz ?_ | refine ZD_ ?_
                    have hst := hst _ rfl
                    generalize V.a + mfn i V + sat i + lword (E.drop (64 * j)) (4 * mgn i) = F at hst ⊢
                    refine A_ ?_
                    first | refine O_ ?_ | refine OD_ hm ?_
                    refine G_ 2 hE ?_
                    refine rc_ hE hP (rturns_fc i hlt) Tryd.func114 ?_
                    refine G_ 3 hE ?_
                    refine rc_ hE hP (rturns_fc i hlt) Tryd.func114 ?_
                    refine G_ 200 hE ?_
                    first | refine rz ?_ | refine ZD_ ?_
                    rw [show (32 - (tat i : Int)).toNat = 32 - tat i by omega, ← rol_eq]
                    refine A_ ?_
                    refine lq_n (i + 1) ?_ (by omega) (by omega)
                    rw [hst]
                    exact wk_ hrc
                  · have hgI : 7 * (i : Int) % 16 = (mgn i : Int) := by rw [mgn3 h0]; omega
                    have hf := mfn3 V h0
                    repeat' (first | refine A1_ ?_ | refine C_ hE (fun hc => ?_) (fun hc => ?_) <;> (try (exfalso; omega)))
                    rw [hgI, ← hf, show ((64 * j : Nat) + 4 * (mgn i : Int)).toNat = 64 * j + 4 * mgn i by omega, show ((64 * j : Nat) + 4 * (mgn i : Int) + 1).toNat = 64 * j + 4 * mgn i + 1 by omega, show ((64 * j : Nat) + 4 * (mgn i : Int) + 2).toNat = 64 * j + 4 * mgn i + 2 by omega, show ((64 * j : Nat) + 4 * (mgn i : Int) + 3).toNat = 64 * j + 4 * mgn i + 3 by omega, mword_at]
                    first | refine O_ ?_ | refine OD_ hm ?_
                    refine G_ 6 hE ?_
                    refine L_ hE ?_ (hd := by exact ws) (hg := by simp only [ws]; exact sg_)
                    refine G_ 200 hE ?_
                    first | refine rz ?_ | refine ZD_ ?_
                    have hst := hst _ rfl
                    generalize V.a + mfn i V + sat i + lword (E.drop (64 * j)) (4 * mgn i) = F at hst ⊢
                    refine A_ ?_
                    first | refine O_ ?_ | refine OD_ hm ?_
                    refine G_ 2 hE ?_
                    refine rc_ hE hP (rturns_fc i hlt) Tryd.func114 ?_
                    refine G_ 3 hE ?_
                    refine rc_ hE hP (rturns_fc i hlt) Tryd.func114 ?_
                    refine G_ 200 hE ?_
                    first | refine rz ?_ | refine ZD_ ?_
                    rw [show (32 - (tat i : Int)).toNat = 32 - tat i by omega, ← rol_eq]
                    refine A_ ?_
                    refine lq_n (i + 1) ?_ (by omega) (by omega)
                    rw [hst]
                    exact wk_ hrc
                · obtain rfl : i = 64 := by omega
                  obtain ⟨V, hV⟩ : ∃ V, V = st4 (abs4 start4 E j) (E.drop (64 * j)) 64 := ⟨_, rfl⟩
                  have hnx : abs4 start4 E (j + 1) = add4 (abs4 start4 E j) V := by rw [hV]; exact abs4_next _ _ _
                  rw [← hV, wsG_h4 (abs4 start4 E j), wsG_h4 V, ← addX_0 (abs4 start4 E j) V]
                  repeat' (first | refine A1_ ?_ | refine C_ hE (fun hc => ?_) (fun hc => ?_) <;> (try (exfalso; omega)))
                  refine vl (fun i : Nat => ⟨[(3, .sl 20 (2 + padZ l.length + 8) 0 E.length), (6, .ptr 6 1 0), (7, .ptr 7 1 0), (8, .int .i64 ((64 * j : Nat) : Int)), (9, .ptr 9 1 0), (16, .int .i64 i)], [(20, ⟨⟨2 + padZ l.length + 8, 1, E.length⟩, some (.bytes E)⟩), (6, ⟨⟨1, 1, 64⟩, some (.cells (wsG 64 sat))⟩), (7, ⟨⟨1, 1, 4⟩, some (.cells (wsG 4 (addX (abs4 start4 E j) V i)))⟩), (9, ⟨⟨1, 1, 4⟩, some (.cells (wsG 4 V.at_))⟩)], []⟩) (fun i => i ≤ 4) (fun i => 4 - i) 0 ?_ (Nat.zero_le _) (fun i hi => ?_)
                  · exact wk_ hrc
                  · have hl3 := wsG_len 4 (addX (abs4 start4 E j) V i)
                    have hl14 := wsG_len 4 V.at_
                    repeat' (first | refine A1_ ?_ | refine C_ hE (fun hc => ?_) (fun hc => ?_) <;> (try (exfalso; omega)))
                    · have g3 : (wsG 4 (addX (abs4 start4 E j) V i)).getD i .bot = .u32 ((abs4 start4 E j).at_ i) := by rw [wsG_get (by omega), addX_ge (by omega)]
                      have g14 : (wsG 4 V.at_).getD i .bot = .u32 (V.at_ i) := wsG_get (by omega)
                      first | refine O_ ?_ | refine OD_ hm ?_
                      refine G_ 3 hE ?_
                      refine L_ hE ?_ (hd := by exact g3) (hg := by simp only [g3]; exact sg_)
                      refine G_ 2 hE ?_
                      refine L_ hE ?_ (hd := by exact g14) (hg := by simp only [g14]; exact sg_)
                      refine G_ 200 hE ?_
                      first | refine rz ?_ | refine ZD_ ?_
                      refine A_ ?_
                      rw [wsG_set (addX_set (abs4 start4 E j) V i)]
                      refine lq_n (i + 1) ?_ (by omega) (by omega)
                      exact wk_ hrc
                    · obtain rfl : i = 4 := by omega
                      rw [addX_end, ← wsG_h4, ← hnx, show ((64 * j : Nat) : Int) + 64 = ((64 * (j + 1) : Nat) : Int) by omega]
                      refine lq_n (j + 1) ?_ (by omega) (by omega)
                      exact wk_ hrc
            · have hj2 : j = E.length / 64 := by omega
              rw [← hj2] at hmd
              rw [hmd]
              generalize abs4 start4 E j = h at *
              rw [wsG_h4]
              refine A_ ?_
              refine VC.weak ?_ (kniln 17 960 1 (c := .bytes []) rfl rfl rfl)
              refine vl (fun i : Nat => ⟨[(7, .ptr 7 1 0), (17, .sl 960 (1 + i) 0 (outQ h i).length), (18, .int .i64 i)], [(7, ⟨⟨1, 1, 4⟩, some (.cells (wsG 4 h.at_))⟩), (960, ⟨⟨1 + i, 1, (outQ h i).length⟩, some (.bytes (outQ h i))⟩)], []⟩) (fun i => i ≤ 4) (fun i => 4 - i) 0 ?_ (Nat.zero_le _) (fun i hi => ?_)
              · rw [outQ_zero]
                exact wk_ hrc
              · have hl3 := wsG_len 4 h.at_
                have hol := outQ_len h i hi
                repeat' (first | refine A1_ ?_ | refine C_ hE (fun hc => ?_) (fun hc => ?_) <;> (try (exfalso; omega)))
                · have g3 : (wsG 4 h.at_).getD i .bot = .u32 (h.at_ i) := wsG_get (by omega)
                  first | refine O_ ?_ | refine OD_ hm ?_
                  refine G_ 3 hE ?_
                  refine L_ hE ?_ (hd := by exact g3) (hg := by simp only [g3]; exact sg_)
                  refine G_ 3 hE ?_
                  refine L_ hE ?_ (hd := by exact g3) (hg := by simp only [g3]; exact sg_)
                  refine G_ 4 hE ?_
                  refine L_ hE ?_ (hd := by exact g3) (hg := by simp only [g3]; exact sg_)
                  refine G_ 4 hE ?_
                  refine L_ hE ?_ (hd := by exact g3) (hg := by simp only [g3]; exact sg_)
                  refine G_ 200 hE ?_
                  first | refine rz ?_ | refine ZD_ ?_
                  refine A_ ?_
                  refine lq_n (i + 1) ?_ (by omega) (by omega)
                  rw [outQ_succ h i (by omega), List.length_append]
                  exact wk_ hrc
                · obtain rfl : i = 4 := by omega
                  rw [outQ_end]
                  repeat' (first | refine A1_ ?_ | refine C_ hE (fun hc => ?_) (fun hc => ?_) <;> (try (exfalso; omega)))
                  exact ret_
end Go.Proofs.YtocfhkmdkdjinaaDoor
