/- What the claim leans on, text Zqa: Repe. No condition beyond what each lemma states. -/
import Derived.Test.YtkokcibnkcmcjaaDoorZq
import Derived.Deep.RegionLaw

/- The contract of bytes.Repeat of one byte, 64 times. -/
namespace Go.Lib
open Go.RowKit
variable {P : Program}
theorem HoldsBytes.of {w : World} {b off cap : Nat} {l : List UInt8} (h : ∀ j x, l[j]? = some x → w.cell? ⟨b, off + j, none⟩ = some (.int .u8 (x.toNat : Int))) : HoldsBytes w (.slice (some ⟨b, off, none⟩) l.length cap) l :=
  ⟨_, _, rfl, (fun e => by cases e), fun a ha j x hx => by
    injection ha with ha
    subst ha
    rw [show (⟨b, off, none⟩ : Addr).add j = ⟨b, off + j, none⟩ by unfold Addr.add; split <;> simp_all]
    exact h j x hx⟩
/-- A row that nothing is frozen of, of that size. -/
def RowK (w : World) (h : Nat) (e : TypeId) (n : Nat) : Prop := ∃ cur, w.heap[h]? = some (.cells cur e (0, 0)) ∧ cur.size = n
theorem RowK.cells {e : TypeId} {n : Nat} (b : Nat) : ∀ (vs : List Value) (o : Nat) {w : World}, RowK w b e n → RowK (w.setCells b o vs) b e n
  | [], _, _, h => h
  | v :: r, o, w, ⟨cur, h1, h2⟩ => RowK.cells b r (o + 1) (w := w.setCell ⟨b, o, none⟩ v) ⟨_, heap_setCell_same w b o cur e v h1, by simpa using h2⟩
/-- 'copy(nb[bp:], ..)' of bytes that lie anywhere. -/
theorem copy_gen (w0 wr : World) (h N : Nat) (acc l : List UInt8) (a : Addr) (c n : Nat) (t ty e : TypeId) (hu : P.underlying t = some (.slice e)) (hs : (P.info? e).map (·.size) = some 1)
    (hb : Buf w0 wr h N acc) (hrk : RowK wr h e n) (hsrc : ∀ j x, l[j]? = some x → wr.cell? (a.add j) = some (.int .u8 (x.toNat : Int))) (h0 : 0 < l.length) (hfit : acc.length + l.length ≤ N) :
    ∃ wr', (Builtin.copy_ #[t, t] ty #[tailV h N acc.length, .slice (some a) l.length c]).run P wr = .ok (.int .i64 (l.length : Int)) wr' ∧ Buf w0 wr' h N (acc ++ l) ∧ RowK wr' h e n := by
  have hne : ¬ N = acc.length := by omega
  have hr := run_copy_cells (P := P) wr t t ty e h acc.length (N - acc.length) (N - acc.length) a l.length c (l.map fun x => Value.int .u8 (x.toNat : Int)) hu hs (by rw [List.length_map]; exact (Nat.min_eq_left (by omega)).symm)
    (fun j u hj => by
      rw [List.getElem?_map] at hj
      obtain ⟨x, hx, rfl⟩ := Option.map_eq_some_iff.1 hj
      exact hsrc j x hx)
    (fun j hj => by rw [List.length_map] at hj; exact hb.there _ (by omega)) (fun j hj => by rw [List.length_map] at hj; exact hb.free _ (by omega))
    (fun u hu' => by obtain ⟨x, _, rfl⟩ := List.mem_map.1 hu'; rfl)
  rw [List.length_map] at hr
  refine ⟨_, by unfold tailV; rw [if_neg hne]; exact hr, ?_, hrk.cells _ _ _⟩
  have hin := World.cell?_setCells_in h (l.map fun x => Value.int .u8 (x.toNat : Int)) acc.length wr (fun j hj => by rw [List.length_map] at hj; exact hb.there _ (by omega))
  have hout := World.cell?_setCells_out h (l.map fun x => Value.int .u8 (x.toNat : Int)) acc.length wr
  refine ⟨below_setCells h (Nat.le_refl _) _ _ hb.below, ?_, ?_, ?_, by rw [List.length_append]; exact hfit⟩
  · intro j hj
    by_cases h1 : acc.length ≤ j ∧ j < acc.length + l.length
    · obtain ⟨d, rfl⟩ : ∃ d, j = acc.length + d := ⟨j - acc.length, by omega⟩
      rw [hin d (by rw [List.length_map]; omega)]
      rfl
    · rw [hout ⟨h, j, none⟩ (fun _ _ => by rw [List.length_map]; show j < _ ∨ _ ≤ j; omega)]
      exact hb.there j hj
  · intro j hj
    rw [World.frozen?_setCells]
    exact hb.free j hj
  · intro j x hx
    by_cases h1 : j < acc.length
    · rw [List.getElem?_append_left h1] at hx
      rw [hout ⟨h, j, none⟩ (fun _ _ => Or.inl h1)]
      exact hb.holds j x hx
    · rw [List.getElem?_append_right (by omega)] at hx
      obtain ⟨d, rfl⟩ : ∃ d, j = acc.length + d := ⟨j - acc.length, by omega⟩
      rw [Nat.add_sub_cancel_left] at hx
      have hd : d < l.length := (List.getElem?_eq_some_iff.1 hx).1
      rw [hin d (by rw [List.length_map]; exact hd)]
      have hx' := (List.getElem?_eq_some_iff.1 hx).2
      rw [List.getElem_map, hx']
/-- 'copy(nb[bp:], nb[:m])': of what is filled. -/
theorem copy_self (w0 wr : World) (h N : Nat) (acc : List UInt8) (m c n : Nat) (t ty e : TypeId) (hu : P.underlying t = some (.slice e)) (hs : (P.info? e).map (·.size) = some 1)
    (hb : Buf w0 wr h N acc) (hrk : RowK wr h e n) (hm : m ≤ acc.length) (h0 : 0 < m) (hfit : acc.length + m ≤ N) :
    ∃ wr', (Builtin.copy_ #[t, t] ty #[tailV h N acc.length, .slice (some ⟨h, 0, none⟩) m c]).run P wr = .ok (.int .i64 (m : Int)) wr' ∧ Buf w0 wr' h N (acc ++ acc.take m) ∧ RowK wr' h e n := by
  have hl : (acc.take m).length = m := by rw [List.length_take]; omega
  have := copy_gen (P := P) w0 wr h N acc (acc.take m) ⟨h, 0, none⟩ c n t ty e hu hs hb hrk (fun j x hx => by
    rw [show (⟨h, 0, none⟩ : Addr).add j = ⟨h, j, none⟩ by unfold Addr.add; split <;> simp_all]
    rw [List.getElem?_take] at hx
    split at hx
    · exact hb.holds j x hx
    · cases hx) (by omega) (by omega)
  rw [hl] at this
  exact this
end Go.Lib
namespace Go.Proofs.YtkokcibnkcmcjaaDoor
open Go Go.RowKit
set_option linter.unusedVariables false
set_option linter.unusedSimpArgs false
theorem step_copy_run {P : Program} {ops : Array Oper} {o : Oper} {a : Act} {w : World} {K : Act → World → Prop} {Q : Exit → Act → World → Prop} {E : Prop} (hg : o.guard = none) (d s : Operand) (t t' : TypeId)
    (ho : o.op = .call { callee := .builtin .copy, args := #[d, s], argTypes := #[t, t'] }) (v u : Value) (hd : a.eval d = v) (hs : a.eval s = u) {v' : Value} {w' : World} (hr : (Builtin.copy_ #[t, t'] o.type #[v, u]).run P w = .ok v' w') (h : K (a.put o.dst v') w') :
    if Region.wanted o (yielded ops a.tmps) = true then Oper.wp P o a w K Q else E := by
  rw [if_pos (by simp [Region.wanted, hg])]
  exact Lib.wp_copy_run w d s t t' ho v u hd hs hr h
theorem mul64_1 (w : World) : Calls Tryd.prog 94 #[.int .u64 1, .int .u64 64] w fun e w' => e = .returned (.tuple #[.int .u64 0, .int .u64 64]) ∧ w' = w := by
  go_enter Tryd.func94, Tryd.ntmps94
  go_wp2_with fail
  go_ret2
  exact ⟨rfl, rfl⟩
theorem mul_1 (w : World) : Calls Tryd.prog 91 #[.int .u64 1, .int .u64 64] w fun e w' => e = .returned (.tuple #[.int .u64 0, .int .u64 64]) ∧ w' = w := by
  go_enter Tryd.func91, Tryd.ntmps91
  go_wp2_with fail
  refine (mul64_1 w).mono ?_
  rintro e w' ⟨rfl, rfl⟩
  go_wp2_with fail
  go_ret2
  exact ⟨rfl, rfl⟩
theorem min_1 : min (1 : Int) 64 = 1 := by decide
theorem min_2 : min (2 : Int) 64 = 2 := by decide
theorem min_4 : min (4 : Int) 64 = 4 := by decide
theorem min_8 : min (8 : Int) 64 = 8 := by decide
theorem min_16 : min (16 : Int) 64 = 16 := by decide
theorem min_32 : min (32 : Int) 64 = 32 := by decide
theorem bt1 : (Tryd.prog.info? 5).map (·.size) = some 1 := by kernel_rfl
theorem z1 : ∀ w, (Go.sizeOf 5).run Tryd.prog w = .ok 1 w := fun w => by
  obtain ⟨i, hi, hz0, hz1, hz2⟩ := info_parts bt.info
  exact run_sizeOf hi (by omega)
set_option maxHeartbeats 8000000 in
set_option maxRecDepth 1000000 in
theorem repeat_any (x : UInt8) (b o c : Nat) (hc : 1 ≤ c) (hcm : c ≤ maxLen) (w : World) (hx : w.cell? ⟨b, o, none⟩ = some (.int .u8 (x.toNat : Int))) :
    Calls Tryd.prog 86 #[.slice (some ⟨b, o, none⟩) 1 c, .int .i64 64] w fun e w' => e = .returned (.slice (some ⟨w.heap.size, 0, none⟩) 64 64) ∧ Lib.Buf w w' w.heap.size 64 (List.replicate 64 x) ∧ ∃ n, 64 ≤ n ∧ Lib.RowK w' w.heap.size 5 n := by
  have mixed : Tryd.prog.follows .mixedOrders = true := by kernel_rfl
  obtain ⟨cs, hrunM, hle, _⟩ := Lib.run_makeNoZero (P := Tryd.prog) w #[3] 27 5 bt.sl 64 (by omega)
  have hcall : (callFunc 92 #[.int .i64 64]).run Tryd.prog w = .ok (.value (.slice (some ⟨w.heap.size, 0, none⟩) 64 cs.size)) ((w.alloc (.cells cs 5)).drewN 2) := by
    rw [run_callFunc_extern Tryd.func92 (by kernel_rfl) (by kernel_rfl) (by kernel_rfl) (e := Extern.BytealgMakeNoZero.makeNoZero #[3] #[27]) (by kernel_rfl)]
    have h := hrunM
    rw [show ((64 : Nat) : Int) = 64 from rfl] at h
    rw [h]
    rfl
  clear hrunM
  have i1 : (64 : Int) ≤ (cs.size : Int) := by omega
  have B0 := Lib.Buf.start w cs 5 64 2 hle
  have hrk0 : Lib.RowK ((w.alloc (.cells cs 5)).drewN 2) w.heap.size 5 cs.size := ⟨cs, heap_alloc_new w _, rfl⟩
  have hlb : b < w.heap.size := World.block_lt_of_cell? w _ hx
  obtain ⟨w1, hr1, B1, R1⟩ := Lib.copy_gen (P := Tryd.prog) w _ w.heap.size 64 [] [x] ⟨b, o, none⟩ c cs.size 27 3 5 bt.sl bt1 B0 hrk0 (fun j y hy => by
    rcases j with _ | j
    · injection hy with hy
      subst hy
      rw [show (⟨b, o, none⟩ : Addr).add 0 = ⟨b, o, none⟩ by unfold Addr.add; split <;> simp_all]
      exact Lib.Below.cellOf B0.below hx (Nat.le_refl _)
    · cases hy) (by simp) (by simp)
  rw [List.length_nil, Lib.tailV_zero, show [x].length = 1 from rfl] at hr1
  rw [List.nil_append] at B1
  have HB1 : _root_.Go.Lib.Buf w w1 w.heap.size 64 [x] ∧ Lib.RowK w1 w.heap.size 5 cs.size := ⟨B1, R1⟩
  clear B1 B0 R1 hrk0
  go_enter Tryd.func86, Tryd.ntmps86
  go_wp2_with fail
  refine (mul_1 w).mono ?_
  rintro e w' ⟨rfl, rfl⟩
  go_wp2_with (at_builtin; refine Lib.wpList_copy_run _ rfl _ _ 27 27 rfl _ _ rfl rfl hr1 ?_)
  go_loopg [10] 6 (fun g s10 wr => ∃ k : Nat, k ≤ 6 ∧ 6 - k ≤ g ∧ s10 = .int .i64 ((2 ^ k : Nat) : Int) ∧ Hid (Lib.Buf w' wr w'.heap.size 64 (List.replicate (2 ^ k) x) ∧ Lib.RowK wr w'.heap.size 5 cs.size))
  case atStart => exact ⟨0, by omega, by omega, rfl, HB1⟩
  case round =>
    obtain ⟨k, hk, hg, rfl, HB⟩ := hrel
    by_cases hk6 : k < 6
    · obtain ⟨m, hm⟩ : ∃ m, m = 2 ^ k := ⟨_, rfl⟩
      have hm1 : (0 < m ∧ m ≤ 32 ∧ 2 ^ (k + 1) = m + m) ∧ (m = 1 ∨ m = 2 ∨ m = 4 ∨ m = 8 ∨ m = 16 ∨ m = 32) := by
        rw [hm]
        rcases k with _ | _ | _ | _ | _ | _ | k
        · decide
        · decide
        · decide
        · decide
        · decide
        · decide
        · omega
      obtain ⟨⟨hm0, hm32, hm2⟩, hm6⟩ := hm1
      rw [← hm] at HB ⊢
      clear hm
      obtain ⟨hB, hRK⟩ := HB.out
      have hl : (List.replicate m x).length = m := List.length_replicate
      have hB' : Lib.Buf w' wr.drew w'.heap.size 64 (List.replicate m x) := ⟨hB.below.drew, fun j hj => hB.there j hj, fun j hj => hB.free j hj, fun j y hy => hB.holds j y hy, hB.fits⟩
      obtain ⟨w2, hr2, B2, R2⟩ := Lib.copy_self (P := Tryd.prog) w' wr.drew w'.heap.size 64 (List.replicate m x) m 64 cs.size 27 3 5 bt.sl bt1 hB' hRK (by rw [hl]; omega) hm0 (by rw [hl]; omega)
      rw [hl] at hr2
      have HB2 : Hid (Lib.Buf w' w2 w'.heap.size 64 (List.replicate (m + m) x) ∧ Lib.RowK w2 w'.heap.size 5 cs.size) := by
        have e : List.replicate m x ++ List.take m (List.replicate m x) = List.replicate (m + m) x := by rw [List.take_of_length_le (by rw [hl]; omega), List.replicate_append_replicate]
        rw [e] at B2
        exact ⟨B2, R2⟩
      unfold Lib.tailV at hr2
      rw [if_neg (show ¬ 64 = m by omega)] at hr2
      clear B2 R2 hRK hB hB' HB HB1 hr1 hcall hx hl
      rcases hm6 with rfl | rfl | rfl | rfl | rfl | rfl
      all_goals
        simp only [Nat.reduceSub, Nat.reduceAdd, Int.cast_ofNat_Int, Int.natCast_one] at hr2
        go_wp2_with fail
        simp only [min_1, min_2, min_4, min_8, min_16, min_32]
        go_region_law (refine step_copy_run rfl (.tmp 70) (.tmp 73) 27 27 rfl _ _ (by simp [Act.eval, Act.put]) (by simp [Act.eval, Act.put]) hr2 ?_)
        go_wp2_with fail
        go_roundg (6 - (k + 1))
        case measure => omega
        case rel => exact ⟨k + 1, by omega, Nat.le_refl _, by rw [hm2]; go_num, by rw [hm2]; exact HB2⟩
    · obtain rfl : k = 6 := by omega
      go_wp2
      go_ret
      exact ⟨rfl, HB.out.1, cs.size, hle, HB.out.2⟩
theorem repeat_fc (x : UInt8) : FC Tryd.prog GE 86 [.rob [x], .int .i64 64] (.ownb (List.replicate 64 x)) none := by
  refine fc_calls rfl (fun w S vs hS hG hl hr => ?_)
  obtain ⟨v0, v1, rfl⟩ : ∃ v0 v1, vs = [v0, v1] := by
    rcases vs with _ | ⟨v0, _ | ⟨v1, _ | ⟨v2, r⟩⟩⟩ <;> simp at hl
    exact ⟨v0, v1, rfl⟩
  obtain rfl := inv_int (hr 1 _ v1 rfl rfl)
  have h1 := hr 0 _ v0 rfl rfl
  cases h1 with
  | rob _ A n cap hrd =>
    obtain rfl : n = 1 := hrd.len.symm
    obtain ⟨b, off, rfl, hb, hc⟩ := hrd.cells (by omega)
    have hx := hc 0 (by omega)
    rw [Nat.add_zero] at hx
    refine (repeat_any x b off cap hrd.le hrd.max w hx).mono ?_
    rintro e w' ⟨rfl, hB, n, hn, cur, hh, hsz⟩
    refine ⟨_, [w.heap.size], rfl, hB.below, .ownb _ _ _ _ [w.heap.size] cur 0 List.length_replicate ⟨Nat.le_refl _, by simp [maxLen], .inr ⟨_, _, (0, 0), rfl, rfl, hh, Loose.zero _, by omega⟩⟩ (fun i hi => ?_), by simp, fun b hb => ?_⟩
    · have h2 := hB.holds i x (by rw [List.getElem?_replicate, if_pos hi])
      rw [cell_of_row w' _ _ cur _ _ hh] at h2
      rw [Nat.zero_add, h2]
      have : gb (List.replicate 64 x) i = x := by
        have h3 := gb_of (l := List.replicate 64 x) (i := i) (by rw [List.length_replicate]; exact hi)
        rw [List.getElem?_replicate, if_pos hi] at h3
        injection h3 with h3
        exact h3.symm
      rw [this]
      rfl
    · obtain rfl : b = w.heap.size := by simpa using hb
      exact ⟨Nat.le_refl _, (Array.getElem?_eq_some_iff.1 hh).1⟩
end Go.Proofs.YtkokcibnkcmcjaaDoor
