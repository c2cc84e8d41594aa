/- What the claim leans on, text Zqh: Chunk. No condition beyond what each lemma states. -/
import Derived.Test.YtocfhkmdkdjinaaDoorChecked
import Derived.Test.YtocfhkmdkdjinaaDoorZqg
import Derived.RangeFuncBox
import Derived.RangeFuncLeaves
import Derived.Shelf.Abstract
import Derived.WalkKit
import Derived.OwnWalkIn
import Derived.TacticsInMore
import Derived.LoopNIn
import Derived.LoopIn
import Derived.Sort.QuietIn
import Derived.BigQuiet
import Derived.Deep.QuietTactic
import Derived.Lib.Hide

/- The contracts of slices.Chunk and of the function that it returns. -/
namespace Go.Proofs.YtocfhkmdkdjinaaDoor
open Go Go.RowKit Go.Shelf
set_option linter.unusedVariables false
set_option linter.unusedSimpArgs false
attribute [local go_sem] Oper.semAt_some

theorem pcN_of {m n k : Nat} (hn : 0 < n) (h1 : ¬ k * n < m) (h2 : k = 0 ∨ (k - 1) * n < m) : pcN m n = k := by
  have a := mt (pcN_lt (m := m) (k := k) hn).1 h1
  rcases h2 with h2 | h2
  · omega
  · have := (pcN_lt hn).2 h2
    omega
theorem Keep2.trans_ {b1 b2 : Nat} {W wr W3 : World} {nq : Nat} (h : Keep2 b1 b2 W wr) (h' : Keep2 b1 b2 (wr.drewN nq) W3) : Keep2 b1 b2 W W3 := ⟨h'.1.trans h.1, h'.2.trans h.2⟩
theorem grew_ (w : World) (n : Nat) : w.grownBy (w.drewN n) none := ⟨rfl, rfl, rfl, Nat.le_refl _, fun _ _ _ => rfl⟩
set_option maxRecDepth 100000 in
theorem run_sl1 {w : World} {b off m cap i : Nat} (h1 : i ≤ m) : ∃ X, ∀ w, (Instr.sliceAt 25 (.slice (some ⟨b, off, none⟩) m cap) (some (.int .i64 (i : Int))) none none).run Tryd.prog w = .ok (.slice X (m - i) (cap - i)) w := by
  refine ⟨if cap = i then some ⟨b, off, none⟩ else some ⟨b, off + i, none⟩, fun w => ?_⟩
  rw [run_sliceAt_slice _ _ _ _ _ _ rfl, run_slice_l _ _ _ _ _ rfl _ _ (by omega) (by omega)]
  simp [sliced, add_lit, Result.andThen, go_sem]
set_option maxRecDepth 100000 in
theorem run_sl3 {b off m cap i j : Nat} (h1 : i < j) (h3 : j ≤ cap) (w : World) :
    (Instr.sliceAt 25 (.slice (some ⟨b, off, none⟩) m cap) (some (.int .i64 (i : Int))) (some (.int .i64 (j : Int))) (some (.int .i64 (j : Int)))).run Tryd.prog w = .ok (.slice (some ⟨b, off + i, none⟩) (j - i) (j - i)) w := by
  rw [run_sliceAt_slice _ _ _ _ _ _ rfl, run_slice_lhm _ _ _ _ _ rfl _ _ _ _ _ _ (by omega) (by omega) (by omega) (by omega)]
  simp [sliced, add_lit, Result.andThen, go_sem]
  omega
set_option maxRecDepth 100000 in
set_option maxHeartbeats 2000000 in
theorem chunk1_in (N n m b1 b2 b off cap l : Nat) (hN : 1 ≤ N) (hn0 : 0 < n) (hnb : n ≤ 4611686018427387904) (hm2 : m ≤ 140737488355328) (hmc : m ≤ cap) (J Jx : List (Ix_ m n) → World → Prop) (W : World) (hJ : AbidesFrom W.heap.size J)
    (hY : ∀ pre (x : Ix_ m n) W1, J pre W1 → pre.length < pcN m n → YieldAt Fence.wide (N - 1) Tryd.prog l #[.slice (some ⟨b, off + x.1 * n, none⟩) (min n (m - x.1 * n)) (min n (m - x.1 * n))] W1 fun e W' =>
      (e = .returned (.bool true) ∧ J (pre ++ [x]) W' ∧ Keep2 b1 b2 W1 W') ∨ (e = .returned (.bool false) ∧ Jx (pre ++ [x]) W'))
    (hc1 : W.cell? ⟨b1, 0, none⟩ = some (.slice (some ⟨b, off, none⟩) m cap)) (hc2 : W.cell? ⟨b2, 0, none⟩ = some (.int .i64 n)) (h0 : J [] W) :
    CallsIn Fence.wide N Tryd.prog 115 #[.func (.yield l) #[] #[], .pointer (some ⟨b1, 0, none⟩), .pointer (some ⟨b2, 0, none⟩)] W fun e W' => (∃ v, e = .returned v) ∧
      ((∃ xs : List (Ix_ m n), xs.map (·.1) = List.range (pcN m n) ∧ J xs W') ∨ (∃ pre, True ∧ Jx pre W')) := by
  refine callsIn_of_wp Tryd.func115 rfl trivial ?_ rfl
  simp only [Tryd.ntmps115, List.size_toArray, List.length_cons, List.length_nil, Nat.reduceAdd, Nat.reduceSub, Array.replicate_succ, Array.replicate_zero, List.push_toArray, List.append_toArray, List.nil_append, List.cons_append]
  gi_wp2
  gi_loopw [4, 5] (fun i _ wr => ∃ (k : Nat) (xs : List (Ix_ m n)), i = .int .i64 ((k * n : Nat) : Int) ∧ xs.map (·.1) = List.range k ∧ (k = 0 ∨ (k - 1) * n < m) ∧ J xs wr ∧ Keep2 b1 b2 W wr) (fun i _ _ => m + n - (intOf i).toNat)
  case atStart => exact ⟨0, [], by simp, rfl, .inl rfl, h0, ⟨rfl, rfl⟩⟩
  case round =>
    obtain ⟨k, xs, hi, hxs, hk, hJs, hkp⟩ := hrel
    have c1 := (World.cell?_of_block (a := ⟨b1, 0, none⟩) hkp.1).trans hc1
    have c2 := (World.cell?_of_block (a := ⟨b2, 0, none⟩) hkp.2).trans hc2
    obtain ⟨i, hik⟩ : ∃ i, i = k * n := ⟨_, rfl⟩
    rw [← hik] at hi
    subst hi
    by_cases hlt : i < m
    · obtain ⟨x, hx⟩ : ∃ x : Ix_ m n, x.1 = k := ⟨⟨k, by rw [← hik]; exact hlt⟩, rfl⟩
      have hY' := hY xs x
      rw [hx, ← hik] at hY'
      have hlen : xs.length = k := by
        have := congrArg List.length hxs
        simpa using this
      have hin : i + n ≤ 9223372036854775807 := by omega
      clear hk hc1 hc2 hY
      have HXS := Lib.hid hxs
      have HKP := Lib.hid hkp
      have HIK := Lib.hid hik
      have HLEN := Lib.hid hlen
      have HX := Lib.hid hx
      clear hik hlen hx hxs hkp
      gi_wp2
      obtain ⟨X16, h16⟩ := run_sl1 (w := wr) (b := b) (off := off) (cap := cap) (Nat.le_of_lt hlt)
      gi_quiet (fail)
      have hmin : (if m - i < n then ((m - i : Nat) : Int) else (n : Int)) = ((min n (m - i) : Nat) : Int) := by split <;> congr 1 <;> omega
      rw [hmin]
      have he0 : 0 < min n (m - i) := by omega
      have he1 : i + min n (m - i) ≤ m := by omega
      generalize min n (m - i) = e at *
      clear hmin h16
      have hq : xs.length < pcN m n := by rw [HLEN.out, pcN_lt hn0, ← HIK.out]; exact hlt
      obtain ⟨fn, tmps, assign, body, hy, hR⟩ := hY' (wr.drewN nq) (hJ _ _ _ none hJs (grew_ wr nq) (by simp)) hq
      have h28 : ∀ w, (Instr.sliceAt 25 (.slice (some ⟨b, off, none⟩) m cap) (some (.int .i64 (i : Int))) (some (.int .i64 ((i : Int) + (e : Int)))) (some (.int .i64 ((i : Int) + (e : Int))))).run Tryd.prog w = .ok (.slice (some ⟨b, off + i, none⟩) e e) w := fun w => by
        have := run_sl3 (b := b) (off := off) (m := m) (cap := cap) (i := i) (j := i + e) (by omega) (by omega) w
        rw [Nat.add_sub_cancel_left] at this
        exact this
      gi_wp2
      refine hR.mono ?_
      have hkeep : ∀ W', Keep2 b1 b2 (wr.drewN nq) W' → W'.cell? ⟨b1, 0, none⟩ = some (.slice (some ⟨b, off, none⟩) m cap) ∧ W'.cell? ⟨b2, 0, none⟩ = some (.int .i64 n) := fun W' h => ⟨(World.cell?_of_block (a := ⟨b1, 0, none⟩) h.1).trans c1, (World.cell?_of_block (a := ⟨b2, 0, none⟩) h.2).trans c2⟩
      clear h28 hY' hR hy hJs
      rintro e W3 (⟨rfl, hJ3, hk3⟩ | ⟨rfl, hJx3⟩)
      · obtain ⟨c3, c4⟩ := hkeep _ hk3
        have HKN := Lib.hid (Keep2.trans_ HKP.out hk3)
        clear hkeep hk3 c1 c2 HKP
        gi_wp2
        go_roundw
        case rel => exact ⟨k + 1, xs ++ [x], by rw [Nat.add_mul, Nat.one_mul, ← HIK.out, Int.natCast_add], by rw [List.map_append, HXS.out, List.range_succ]; simp [HX.out], .inr (by rw [Nat.add_sub_cancel, ← HIK.out]; exact hlt), hJ3, HKN.out⟩
        case measure => simp [intOf]; omega
      · gi_wp2
        refine bodyPost_ret (results_none rfl _ _ _) rfl ?_
        exact ⟨⟨_, rfl⟩, .inr ⟨_, trivial, hJx3⟩⟩
    · gi_wp2
      go_end0
      exact ⟨⟨_, rfl⟩, .inl ⟨_, by rw [hxs, pcN_of hn0 (by rw [← hik]; exact hlt) hk], hJs⟩⟩
set_option maxRecDepth 100000 in
set_option maxHeartbeats 2000000 in
theorem chunk0_in (N n b1 b2 cap l : Nat) (A : Option Addr) (J : List (Ix_ 0 n) → World → Prop) (W : World) (hn0 : 0 < n)
    (hc1 : W.cell? ⟨b1, 0, none⟩ = some (.slice A 0 cap)) (h0 : J [] W) :
    CallsIn Fence.wide N Tryd.prog 115 #[.func (.yield l) #[] #[], .pointer (some ⟨b1, 0, none⟩), .pointer (some ⟨b2, 0, none⟩)] W fun e W' => (∃ v, e = .returned v) ∧
      ∃ xs : List (Ix_ 0 n), xs.map (·.1) = List.range (pcN 0 n) ∧ J xs W' := by
  refine callsIn_of_wp Tryd.func115 rfl trivial ?_ rfl
  simp only [Tryd.ntmps115, List.size_toArray, List.length_cons, List.length_nil, Nat.reduceAdd, Nat.reduceSub, Array.replicate_succ, Array.replicate_zero, List.push_toArray, List.append_toArray, List.nil_append, List.cons_append]
  gi_wp2
  gi_loopw [4, 5] (fun i _ wr => i = .int .i64 0 ∧ wr = W) (fun i _ _ => 0)
  case atStart => exact ⟨rfl, rfl⟩
  case round =>
    obtain ⟨rfl, rfl⟩ := hrel
    gi_wp2
    go_end0
    exact ⟨⟨_, rfl⟩, [], by rw [pcN_of (k := 0) hn0 (by omega) (.inl rfl)]; rfl, h0⟩
set_option maxRecDepth 100000 in
theorem chunk_ok : ChunkOk Tryd.prog 115 := by
  refine ⟨⟨_, rfl, rfl, rfl⟩, fun n m b1 b2 A cap w hn0 hnb hm2 hmc hA hb1 hb2 hc1 hc2 => ?_⟩
  intro l J Jx W hW hJ _ hY h0
  have c1 := (hW.cell (p := ⟨b1, 0, none⟩) hb1).trans hc1
  have c2 := (hW.cell (p := ⟨b2, 0, none⟩) hb2).trans hc2
  by_cases hm : m = 0
  · subst hm
    exact (chunk0_in 4 n b1 b2 cap l A J W hn0 c1 h0).mono fun e W' ⟨h1, h2⟩ => ⟨h1, .inl h2⟩
  · obtain ⟨b, off, rfl⟩ := hA (by omega)
    refine chunk1_in 4 n m b1 b2 b off cap l (by omega) hn0 hnb hm2 hmc J Jx W hJ (fun pre x W1 h1 h2 => ?_) c1 c2 h0
    have := hY pre x W1 h1 h2
    simpa only [pv, add_lit] using this
theorem chunk_fc (G : Nat → Option D) (l : List UInt8) (n : Nat) (hn : 0 < n) : FC Tryd.prog G 90 [.rob l, .int .i64 n] (.chunk 115 l n) none := by
  intro w S vs Fs hS hG h1 h2 h3 h4 h5
  rcases vs with _ | ⟨v, _ | ⟨v2, _ | ⟨v3, vs⟩⟩⟩
  · simp at h1
  · simp at h1
  · rcases Fs with _ | ⟨F, _ | ⟨F2, _ | ⟨F3, Fs⟩⟩⟩
    · simp at h2
    · simp at h2
    · have hv := h3 0 _ v F rfl rfl rfl
      have hv2 := h3 1 _ v2 F2 rfl rfl rfl
      cases hv2
      cases hv with
      | rob _ A m cap h =>
        refine (?_ : Calls Tryd.prog 90 #[.slice A m cap, .int .i64 n] w (fun e w' => e = .returned (.func (.func 115) #[] #[.pointer (some ⟨w.heap.size, 0, none⟩), .pointer (some ⟨w.heap.size + 1, 0, none⟩)]) ∧ ∃ E1 E2, w' = (w.alloc (.cells #[.slice A m cap] E1)).alloc (.cells #[.int .i64 n] E2))).mono ?_
        · go_enter Tryd.func90, Tryd.ntmps90
          go_wp2
          go_ret
          exact ⟨rfl, _, _, rfl⟩
        · rintro e w' ⟨rfl, E1, E2, rfl⟩
          have es0 : (w.alloc (.cells #[.slice A m cap] E1)).heap.size = w.heap.size + 1 := World.size_alloc _ _
          have es : ((w.alloc (.cells #[.slice A m cap] E1)).alloc (.cells #[.int .i64 n] E2)).heap.size = w.heap.size + 2 := by rw [World.size_alloc, es0]
          have hb : ∀ b, b < w.heap.size → ((w.alloc (.cells #[.slice A m cap] E1)).alloc (.cells #[.int .i64 n] E2)).heap[b]? = w.heap[b]? := fun b hb => (Below.heap_alloc (w.alloc _) _ b (by omega)).trans (Below.heap_alloc w _ b hb)
          have e1 : ((w.alloc (.cells #[.slice A m cap] E1)).alloc (.cells #[.int .i64 n] E2)).heap[w.heap.size]? = some (.cells #[.slice A m cap] E1) := (Below.heap_alloc (w.alloc _) _ _ (by omega)).trans (heap_alloc_new w _)
          have e2 : ((w.alloc (.cells #[.slice A m cap] E1)).alloc (.cells #[.int .i64 n] E2)).heap[w.heap.size + 1]? = some (.cells #[.int .i64 n] E2) := by rw [← es0]; exact heap_alloc_new _ _
          have eo : ((w.alloc (.cells #[.slice A m cap] E1)).alloc (.cells #[.int .i64 n] E2)).os = w.os := rfl
          have et : ((w.alloc (.cells #[.slice A m cap] E1)).alloc (.cells #[.int .i64 n] E2)).tape = w.tape := rfl
          have ep : ((w.alloc (.cells #[.slice A m cap] E1)).alloc (.cells #[.int .i64 n] E2)).output = w.output := rfl
          generalize (w.alloc (.cells #[.slice A m cap] E1)).alloc (.cells #[.int .i64 n] E2) = W at hb e1 e2 es eo et ep
          have hSW : ∀ b, (S b ∨ b = w.heap.size ∨ b = w.heap.size + 1) → b < W.heap.size := fun b hb => by
            rcases hb with hb | rfl | rfl
            · have := hS.lt hb; omega
            · omega
            · omega
          refine ⟨_, [], [], fun b => S b ∨ b = w.heap.size ∨ b = w.heap.size + 1, rfl, eo, et, ep, by omega, Szs.same fun b hb' => hb b hb', fun b hb' _ => hb b hb', fun _ h => .inl h, fun b hb' => ⟨hSW b hb', ?_⟩, ?_, ?_, rfl, by simp, by simp⟩
          · rcases hb' with hb' | hb' | hb'
            · exact .inl hb'
            · exact .inr (.inl (by omega))
            · exact .inr (.inl (by omega))
          · intro b hb'
            rcases hb' with hb' | rfl | rfl
            · rw [hb b (hS.lt hb')]; exact hS b hb'
            · exact ⟨_, _, _, e1⟩
            · exact ⟨_, _, _, e2⟩
          · exact .chunk _ _ _ _ _ _ _ _ (.inr (.inl rfl)) (.inr (.inr rfl)) (h.mono (fun _ h => .inl h) fun b hb' => hb b (hS.lt hb')) (by simp [World.cell?, e1]) (by simp [World.cell?, e2])
    · simp at h2
  · simp at h1
end Go.Proofs.YtocfhkmdkdjinaaDoor
