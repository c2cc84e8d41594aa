/- What the claim leans on, text Zh: Repe, Md6. No condition beyond what each lemma states. -/
import Derived.Test.YtocfhkmdkdjinaaDoorZq
import Derived.Deep.RegionLaw
import Derived.Test.YtocfhkmdkdjinaaDoorZd
import Derived.Test.YtocfhkmdkdjinaaDoorZt
import Derived.Test.YtocfhkmdkdjinaaDoorZp
import Derived.Test.YtocfhkmdkdjinaaDoorZf

/- The contract of bytes.Repeat of one byte, 64 times. -/
namespace Go.Lib
open Go.RowKit
variable {P : Program}
theorem HoldsBytes.of {w : World} {b off cap : Nat} {l : List UInt8} (h : ∀ j x, l[j]? = some x → w.cell? ⟨b, off + j, none⟩ = some (.int .u8 (x.toNat : Int))) : HoldsBytes w (.slice (some ⟨b, off, none⟩) l.length cap) l :=
  ⟨_, _, rfl, (fun e => by cases e), fun a ha j x hx => by
    injection ha with ha
    subst ha
    rw [show (⟨b, off, none⟩ : Addr).add j = ⟨b, off + j, none⟩ by unfold Addr.add; split <;> simp_all]
    exact h j x hx⟩
/-- A row that nothing is frozen of, of that size. -/
def RowK (w : World) (h : Nat) (e : TypeId) (n : Nat) : Prop := ∃ cur, w.heap[h]? = some (.cells cur e (0, 0)) ∧ cur.size = n
theorem RowK.cells {e : TypeId} {n : Nat} (b : Nat) : ∀ (vs : List Value) (o : Nat) {w : World}, RowK w b e n → RowK (w.setCells b o vs) b e n
  | [], _, _, h => h
  | v :: r, o, w, ⟨cur, h1, h2⟩ => RowK.cells b r (o + 1) (w := w.setCell ⟨b, o, none⟩ v) ⟨_, heap_setCell_same w b o cur e v h1, by simpa using h2⟩
/-- 'copy(nb[bp:], ..)' of bytes that lie anywhere. -/
theorem copy_gen (w0 wr : World) (h N : Nat) (acc l : List UInt8) (a : Addr) (c n : Nat) (t ty e : TypeId) (hu : P.underlying t = some (.slice e)) (hs : (P.info? e).map (·.size) = some 1)
    (hb : Buf w0 wr h N acc) (hrk : RowK wr h e n) (hsrc : ∀ j x, l[j]? = some x → wr.cell? (a.add j) = some (.int .u8 (x.toNat : Int))) (h0 : 0 < l.length) (hfit : acc.length + l.length ≤ N) :
    ∃ wr', (Builtin.copy_ #[t, t] ty #[tailV h N acc.length, .slice (some a) l.length c]).run P wr = .ok (.int .i64 (l.length : Int)) wr' ∧ Buf w0 wr' h N (acc ++ l) ∧ RowK wr' h e n := by
  have hne : ¬ N = acc.length := by omega
  have hr := run_copy_cells (P := P) wr t t ty e h acc.length (N - acc.length) (N - acc.length) a l.length c (l.map fun x => Value.int .u8 (x.toNat : Int)) hu hs (by rw [List.length_map]; exact (Nat.min_eq_left (by omega)).symm)
    (fun j u hj => by
      rw [List.getElem?_map] at hj
      obtain ⟨x, hx, rfl⟩ := Option.map_eq_some_iff.1 hj
      exact hsrc j x hx)
    (fun j hj => by rw [List.length_map] at hj; exact hb.there _ (by omega)) (fun j hj => by rw [List.length_map] at hj; exact hb.free _ (by omega))
    (fun u hu' => by obtain ⟨x, _, rfl⟩ := List.mem_map.1 hu'; rfl)
  rw [List.length_map] at hr
  refine ⟨_, by unfold tailV; rw [if_neg hne]; exact hr, ?_, hrk.cells _ _ _⟩
  have hin := World.cell?_setCells_in h (l.map fun x => Value.int .u8 (x.toNat : Int)) acc.length wr (fun j hj => by rw [List.length_map] at hj; exact hb.there _ (by omega))
  have hout := World.cell?_setCells_out h (l.map fun x => Value.int .u8 (x.toNat : Int)) acc.length wr
  refine ⟨below_setCells h (Nat.le_refl _) _ _ hb.below, ?_, ?_, ?_, by rw [List.length_append]; exact hfit⟩
  · intro j hj
    by_cases h1 : acc.length ≤ j ∧ j < acc.length + l.length
    · obtain ⟨d, rfl⟩ : ∃ d, j = acc.length + d := ⟨j - acc.length, by omega⟩
      rw [hin d (by rw [List.length_map]; omega)]
      rfl
    · rw [hout ⟨h, j, none⟩ (fun _ _ => by rw [List.length_map]; show j < _ ∨ _ ≤ j; omega)]
      exact hb.there j hj
  · intro j hj
    rw [World.frozen?_setCells]
    exact hb.free j hj
  · intro j x hx
    by_cases h1 : j < acc.length
    · rw [List.getElem?_append_left h1] at hx
      rw [hout ⟨h, j, none⟩ (fun _ _ => Or.inl h1)]
      exact hb.holds j x hx
    · rw [List.getElem?_append_right (by omega)] at hx
      obtain ⟨d, rfl⟩ : ∃ d, j = acc.length + d := ⟨j - acc.length, by omega⟩
      rw [Nat.add_sub_cancel_left] at hx
      have hd : d < l.length := (List.getElem?_eq_some_iff.1 hx).1
      rw [hin d (by rw [List.length_map]; exact hd)]
      have hx' := (List.getElem?_eq_some_iff.1 hx).2
      rw [List.getElem_map, hx']
/-- 'copy(nb[bp:], nb[:m])': of what is filled. -/
theorem copy_self (w0 wr : World) (h N : Nat) (acc : List UInt8) (m c n : Nat) (t ty e : TypeId) (hu : P.underlying t = some (.slice e)) (hs : (P.info? e).map (·.size) = some 1)
    (hb : Buf w0 wr h N acc) (hrk : RowK wr h e n) (hm : m ≤ acc.length) (h0 : 0 < m) (hfit : acc.length + m ≤ N) :
    ∃ wr', (Builtin.copy_ #[t, t] ty #[tailV h N acc.length, .slice (some ⟨h, 0, none⟩) m c]).run P wr = .ok (.int .i64 (m : Int)) wr' ∧ Buf w0 wr' h N (acc ++ acc.take m) ∧ RowK wr' h e n := by
  have hl : (acc.take m).length = m := by rw [List.length_take]; omega
  have := copy_gen (P := P) w0 wr h N acc (acc.take m) ⟨h, 0, none⟩ c n t ty e hu hs hb hrk (fun j x hx => by
    rw [show (⟨h, 0, none⟩ : Addr).add j = ⟨h, j, none⟩ by unfold Addr.add; split <;> simp_all]
    rw [List.getElem?_take] at hx
    split at hx
    · exact hb.holds j x hx
    · cases hx) (by omega) (by omega)
  rw [hl] at this
  exact this
end Go.Lib
namespace Go.Proofs.YtocfhkmdkdjinaaDoor
open Go Go.RowKit
set_option linter.unusedVariables false
set_option linter.unusedSimpArgs false
theorem step_copy_run {P : Program} {ops : Array Oper} {o : Oper} {a : Act} {w : World} {K : Act → World → Prop} {Q : Exit → Act → World → Prop} {E : Prop} (hg : o.guard = none) (d s : Operand) (t t' : TypeId)
    (ho : o.op = .call { callee := .builtin .copy, args := #[d, s], argTypes := #[t, t'] }) (v u : Value) (hd : a.eval d = v) (hs : a.eval s = u) {v' : Value} {w' : World} (hr : (Builtin.copy_ #[t, t'] o.type #[v, u]).run P w = .ok v' w') (h : K (a.put o.dst v') w') :
    if Region.wanted o (yielded ops a.tmps) = true then Oper.wp P o a w K Q else E := by
  rw [if_pos (by simp [Region.wanted, hg])]
  exact Lib.wp_copy_run w d s t t' ho v u hd hs hr h
theorem mul64_1 (w : World) : Calls Tryd.prog 126 #[.int .u64 1, .int .u64 64] w fun e w' => e = .returned (.tuple #[.int .u64 0, .int .u64 64]) ∧ w' = w := by
  go_enter Tryd.func126, Tryd.ntmps126
  go_wp2_with fail
  go_ret2
  exact ⟨rfl, rfl⟩
theorem mul_1 (w : World) : Calls Tryd.prog 123 #[.int .u64 1, .int .u64 64] w fun e w' => e = .returned (.tuple #[.int .u64 0, .int .u64 64]) ∧ w' = w := by
  go_enter Tryd.func123, Tryd.ntmps123
  go_wp2_with fail
  refine (mul64_1 w).mono ?_
  rintro e w' ⟨rfl, rfl⟩
  go_wp2_with fail
  go_ret2
  exact ⟨rfl, rfl⟩
theorem min_1 : min (1 : Int) 64 = 1 := by decide
theorem min_2 : min (2 : Int) 64 = 2 := by decide
theorem min_4 : min (4 : Int) 64 = 4 := by decide
theorem min_8 : min (8 : Int) 64 = 8 := by decide
theorem min_16 : min (16 : Int) 64 = 16 := by decide
theorem min_32 : min (32 : Int) 64 = 32 := by decide
theorem bt1 : (Tryd.prog.info? 5).map (·.size) = some 1 := by kernel_rfl
theorem z1 : ∀ w, (Go.sizeOf 5).run Tryd.prog w = .ok 1 w := fun w => by
  obtain ⟨i, hi, hz0, hz1, hz2⟩ := info_parts bt.info
  exact run_sizeOf hi (by omega)
set_option maxHeartbeats 8000000 in
set_option maxRecDepth 1000000 in
theorem repeat_any (x : UInt8) (b o c : Nat) (hc : 1 ≤ c) (hcm : c ≤ maxLen) (w : World) (hx : w.cell? ⟨b, o, none⟩ = some (.int .u8 (x.toNat : Int))) :
    Calls Tryd.prog 122 #[.slice (some ⟨b, o, none⟩) 1 c, .int .i64 64] w fun e w' => e = .returned (.slice (some ⟨w.heap.size, 0, none⟩) 64 64) ∧ Lib.Buf w w' w.heap.size 64 (List.replicate 64 x) ∧ ∃ n, 64 ≤ n ∧ Lib.RowK w' w.heap.size 5 n := by
  have mixed : Tryd.prog.follows .mixedOrders = true := by kernel_rfl
  obtain ⟨cs, hrunM, hle, _⟩ := Lib.run_makeNoZero (P := Tryd.prog) w #[3] 25 5 bt.sl 64 (by omega)
  have hcall : (callFunc 124 #[.int .i64 64]).run Tryd.prog w = .ok (.value (.slice (some ⟨w.heap.size, 0, none⟩) 64 cs.size)) ((w.alloc (.cells cs 5)).drewN 2) := by
    rw [run_callFunc_extern Tryd.func124 (by kernel_rfl) (by kernel_rfl) (by kernel_rfl) (e := Extern.BytealgMakeNoZero.makeNoZero #[3] #[25]) (by kernel_rfl)]
    have h := hrunM
    rw [show ((64 : Nat) : Int) = 64 from rfl] at h
    rw [h]
    rfl
  clear hrunM
  have i1 : (64 : Int) ≤ (cs.size : Int) := by omega
  have B0 := Lib.Buf.start w cs 5 64 2 hle
  have hrk0 : Lib.RowK ((w.alloc (.cells cs 5)).drewN 2) w.heap.size 5 cs.size := ⟨cs, heap_alloc_new w _, rfl⟩
  have hlb : b < w.heap.size := World.block_lt_of_cell? w _ hx
  obtain ⟨w1, hr1, B1, R1⟩ := Lib.copy_gen (P := Tryd.prog) w _ w.heap.size 64 [] [x] ⟨b, o, none⟩ c cs.size 25 3 5 bt.sl bt1 B0 hrk0 (fun j y hy => by
    rcases j with _ | j
    · injection hy with hy
      subst hy
      rw [show (⟨b, o, none⟩ : Addr).add 0 = ⟨b, o, none⟩ by unfold Addr.add; split <;> simp_all]
      exact Lib.Below.cellOf B0.below hx (Nat.le_refl _)
    · cases hy) (by simp) (by simp)
  rw [List.length_nil, Lib.tailV_zero, show [x].length = 1 from rfl] at hr1
  rw [List.nil_append] at B1
  have HB1 : _root_.Go.Lib.Buf w w1 w.heap.size 64 [x] ∧ Lib.RowK w1 w.heap.size 5 cs.size := ⟨B1, R1⟩
  clear B1 B0 R1 hrk0
  go_enter Tryd.func122, Tryd.ntmps122
  go_wp2_with fail
  refine (mul_1 w).mono ?_
  rintro e w' ⟨rfl, rfl⟩
  go_wp2_with (at_builtin; refine Lib.wpList_copy_run _ rfl _ _ 25 25 rfl _ _ rfl rfl hr1 ?_)
  go_loopg [10] 6 (fun g s10 wr => ∃ k : Nat, k ≤ 6 ∧ 6 - k ≤ g ∧ s10 = .int .i64 ((2 ^ k : Nat) : Int) ∧ Hid (Lib.Buf w' wr w'.heap.size 64 (List.replicate (2 ^ k) x) ∧ Lib.RowK wr w'.heap.size 5 cs.size))
  case atStart => exact ⟨0, by omega, by omega, rfl, HB1⟩
  case round =>
    obtain ⟨k, hk, hg, rfl, HB⟩ := hrel
    by_cases hk6 : k < 6
    · obtain ⟨m, hm⟩ : ∃ m, m = 2 ^ k := ⟨_, rfl⟩
      have hm1 : (0 < m ∧ m ≤ 32 ∧ 2 ^ (k + 1) = m + m) ∧ (m = 1 ∨ m = 2 ∨ m = 4 ∨ m = 8 ∨ m = 16 ∨ m = 32) := by
        rw [hm]
        rcases k with _ | _ | _ | _ | _ | _ | k
        · decide
        · decide
        · decide
        · decide
        · decide
        · decide
        · omega
      obtain ⟨⟨hm0, hm32, hm2⟩, hm6⟩ := hm1
      rw [← hm] at HB ⊢
      clear hm
      obtain ⟨hB, hRK⟩ := HB.out
      have hl : (List.replicate m x).length = m := List.length_replicate
      have hB' : Lib.Buf w' wr.drew w'.heap.size 64 (List.replicate m x) := ⟨hB.below.drew, fun j hj => hB.there j hj, fun j hj => hB.free j hj, fun j y hy => hB.holds j y hy, hB.fits⟩
      obtain ⟨w2, hr2, B2, R2⟩ := Lib.copy_self (P := Tryd.prog) w' wr.drew w'.heap.size 64 (List.replicate m x) m 64 cs.size 25 3 5 bt.sl bt1 hB' hRK (by rw [hl]; omega) hm0 (by rw [hl]; omega)
      rw [hl] at hr2
      have HB2 : Hid (Lib.Buf w' w2 w'.heap.size 64 (List.replicate (m + m) x) ∧ Lib.RowK w2 w'.heap.size 5 cs.size) := by
        have e : List.replicate m x ++ List.take m (List.replicate m x) = List.replicate (m + m) x := by rw [List.take_of_length_le (by rw [hl]; omega), List.replicate_append_replicate]
        rw [e] at B2
        exact ⟨B2, R2⟩
      unfold Lib.tailV at hr2
      rw [if_neg (show ¬ 64 = m by omega)] at hr2
      clear B2 R2 hRK hB hB' HB HB1 hr1 hcall hx hl
      rcases hm6 with rfl | rfl | rfl | rfl | rfl | rfl
      all_goals
        simp only [Nat.reduceSub, Nat.reduceAdd, Int.cast_ofNat_Int, Int.natCast_one] at hr2
        go_wp2_with fail
        simp only [min_1, min_2, min_4, min_8, min_16, min_32]
        go_region_law (refine step_copy_run rfl (.tmp 70) (.tmp 73) 25 25 rfl _ _ (by simp [Act.eval, Act.put]) (by simp [Act.eval, Act.put]) hr2 ?_)
        go_wp2_with fail
        go_roundg (6 - (k + 1))
        case measure => omega
        case rel => exact ⟨k + 1, by omega, Nat.le_refl _, by rw [hm2]; go_num, by rw [hm2]; exact HB2⟩
    · obtain rfl : k = 6 := by omega
      go_wp2
      go_ret
      exact ⟨rfl, HB.out.1, cs.size, hle, HB.out.2⟩
theorem repeat_fc (x : UInt8) : FC Tryd.prog GE 122 [.rob [x], .int .i64 64] (.ownb (List.replicate 64 x)) none := by
  refine fc_calls rfl (fun w S vs hS hG hl hr => ?_)
  obtain ⟨v0, v1, rfl⟩ : ∃ v0 v1, vs = [v0, v1] := by
    rcases vs with _ | ⟨v0, _ | ⟨v1, _ | ⟨v2, r⟩⟩⟩ <;> simp at hl
    exact ⟨v0, v1, rfl⟩
  obtain rfl := inv_int (hr 1 _ v1 rfl rfl)
  have h1 := hr 0 _ v0 rfl rfl
  cases h1 with
  | rob _ A n cap hrd =>
    obtain rfl : n = 1 := hrd.len.symm
    obtain ⟨b, off, rfl, hb, hc⟩ := hrd.cells (by omega)
    have hx := hc 0 (by omega)
    rw [Nat.add_zero] at hx
    refine (repeat_any x b off cap hrd.le hrd.max w hx).mono ?_
    rintro e w' ⟨rfl, hB, n, hn, cur, hh, hsz⟩
    refine ⟨_, [w.heap.size], rfl, hB.below, .ownb _ _ _ _ [w.heap.size] cur 0 List.length_replicate ⟨Nat.le_refl _, by simp [maxLen], .inr ⟨_, _, (0, 0), rfl, rfl, hh, Loose.zero _, by omega⟩⟩ (fun i hi => ?_), by simp, fun b hb => ?_⟩
    · have h2 := hB.holds i x (by rw [List.getElem?_replicate, if_pos hi])
      rw [cell_of_row w' _ _ cur _ _ hh] at h2
      rw [Nat.zero_add, h2]
      have : gb (List.replicate 64 x) i = x := by
        have h3 := gb_of (l := List.replicate 64 x) (i := i) (by rw [List.length_replicate]; exact hi)
        rw [List.getElem?_replicate, if_pos hi] at h3
        injection h3 with h3
        exact h3.symm
      rw [this]
      rfl
    · obtain rfl : b = w.heap.size := by simpa using hb
      exact ⟨Nat.le_refl _, (Array.getElem?_eq_some_iff.1 hh).1⟩
end Go.Proofs.YtocfhkmdkdjinaaDoor

/- old's pad and Mac; the reference's Mac. Printed by wp.py. -/
namespace Go.Proofs.YtocfhkmdkdjinaaDoor
open Go Go.RowKit
set_option linter.unusedVariables false
set_option linter.unusedSimpArgs false
set_option maxRecDepth 100000
set_option maxHeartbeats 4000000
attribute [local irreducible] inR VC RG VCn sq inS lq nq jq Wk

/-- A key put together with a byte, so many of its bytes. -/
def padO (k : List UInt8) (x : UInt8) (i : Nat) : List UInt8 := (k.take i).map (fun b => b ^^^ x) ++ List.replicate (64 - i) x
theorem padO_zero (k : List UInt8) (x : UInt8) : padO k x 0 = List.replicate 64 x := rfl
theorem padO_len (k : List UInt8) (x : UInt8) (i : Nat) (h : i ≤ k.length) (h2 : k.length ≤ 64) : (padO k x i).length = 64 := by simp [padO]; omega
theorem padO_set (k : List UInt8) (x : UInt8) {i : Nat} (h : i < k.length) (h2 : k.length ≤ 64) : (padO k x i).set i (gb (padO k x i) i ^^^ gb k i) = padO k x (i + 1) := by
  have hl : ((k.take i).map (fun b => b ^^^ x)).length = i := by simp; omega
  have hr : List.replicate (64 - i) x = x :: List.replicate (64 - (i + 1)) x := by rw [show 64 - i = 64 - (i + 1) + 1 by omega, List.replicate_succ]
  have hg : gb (padO k x i) i = x := by
    unfold gb padO
    rw [hr, List.getD_eq_getElem?_getD, List.getElem?_append_right (by omega), hl, Nat.sub_self]
    rfl
  have hk : gb k i = k[i] := by
    unfold gb
    rw [List.getD_eq_getElem?_getD, List.getElem?_eq_getElem h]
    rfl
  rw [hg, hk]
  unfold padO
  rw [hr, List.set_append_right _ _ (by omega), hl, Nat.sub_self, List.set_cons_zero, List.take_add_one, List.getElem?_eq_getElem h, Option.toList_some, List.map_append, List.append_assoc, UInt8.xor_comm]
  rfl
theorem padO_end (k : List UInt8) (x : UInt8) : padO k x k.length = padK k x := by
  rw [padK_def, kz_def, List.map_append, List.map_replicate]
  unfold padO
  rw [List.take_length, UInt8.zero_xor]
/-- A key that fits a block; a mark by it. -/
def kfitM (k : List UInt8) : List UInt8 := if 64 < k.length then md k else k
def hmM (k m : List UInt8) : List UInt8 := md (padK (kfitM k) 92 ++ md (padK (kfitM k) 54 ++ m))
theorem kfitM_big {k : List UInt8} (h : 64 < k.length) : kfitM k = md k := if_pos h
theorem kfitM_small {k : List UInt8} (h : ¬64 < k.length) : kfitM k = k := if_neg h
theorem hmM_len (k m : List UInt8) : (hmM k m).length = 16 := md_len _
theorem hmM_take (k m : List UInt8) : (hmM k m).take 16 = hmM k m := md_take _
theorem hmM_def (k q m : List UInt8) (h : q = kfitM k) : hmM k m = md (padK q 92 ++ md (padK q 54 ++ m)) := by subst h; rfl
theorem hmM_md (k m : List UInt8) (h : 64 < k.length) : hmM (md k) m = hmM k m := by
  rw [hmM_def (md k) (md k) m (kfitM_small (by rw [md_len]; decide)).symm, hmM_def k (md k) m (kfitM_big h).symm]
theorem kz_pad (k : List UInt8) (n : Nat) (h : k.length + n ≤ 64) : kz (k ++ List.replicate n 0) = kz k := by
  rw [kz_def, kz_def, List.append_assoc, List.length_append, List.length_replicate, List.replicate_append_replicate]
  congr 2
  omega
theorem hmM_pad (k m : List UInt8) (n : Nat) (h : k.length + n ≤ 64) : hmM (k ++ List.replicate n 0) m = hmM k m := by
  rw [hmM_def (k ++ List.replicate n 0) _ m (kfitM_small (by rw [List.length_append, List.length_replicate]; omega)).symm, hmM_def k k m (kfitM_small (by omega)).symm, padK_def, padK_def, padK_def, padK_def, kz_pad k n h]
theorem oOf1_fc (p : List UInt8) (hb : p.length ≤ 100000000000) : FC Tryd.prog GO 74 [.rof 1 [p].length (fun i _ => .rob ([p].getD i []))] (.aggb (md p)) none := by
  have h := oOf_fc [p] (by simp) (by simpa using hb)
  rw [show [p].flatten = p by simp] at h
  exact h
theorem oOf2_fc (p q : List UInt8) (hb : p.length + q.length ≤ 100000000000) : FC Tryd.prog GO 74 [.rof 1 [p, q].length (fun i _ => .rob ([p, q].getD i []))] (.aggb (md (p ++ q))) none := by
  have h := oOf_fc [p, q] (by simp) (by simpa using hb)
  rw [show [p, q].flatten = p ++ q by simp] at h
  exact h
theorem oOfC_fc (p : List UInt8) (ps : List (List UInt8)) (hn : ps.length ≤ 100000) (hb : p.length + ps.flatten.length ≤ 100000000000) : FC Tryd.prog GO 74 [.rof 1 (p :: ps).length (fun i _ => .rob ((p :: ps).getD i []))] (.aggb (md (p ++ ps.flatten))) none := by
  have h := oOf_fc (p :: ps) (by simp; omega) (by simpa using hb)
  rw [show (p :: ps).flatten = p ++ ps.flatten by simp] at h
  exact h
theorem rob_rsc (ps : List (List UInt8)) : ((List.range ps.length).map (fun i => D.rob (ps.getD i []))).all D.sc = true := by
  rw [List.all_map]
  exact List.all_eq_true.2 fun _ _ => rfl
theorem rob_range (ps : List (List UInt8)) : (List.range ps.length).map (fun i => D.rob (ps.getD i [])) = ps.map D.rob := by
  apply List.ext_getElem
  · simp
  · intro i h1 h2
    have h3 : i < ps.length := by simpa using h1
    simp [List.getD_eq_getElem?_getD, h3]
theorem rob_cons (p : List UInt8) (ps : List (List UInt8)) : D.rob p :: ps.map D.rob = (p :: ps).map D.rob := rfl
attribute [local irreducible] md hmM kfitM kz padK padO
attribute [local simp] md_len hmM_len

namespace UoPad_fc
theorem U : type_of% @md_take ∧ type_of% @md_len ∧ type_of% (@drop_rep UInt8) ∧ type_of% (@drop_rep D) ∧ type_of% (@List.take_zero UInt8) ∧ type_of% (@List.take_zero D) ∧ type_of% @padK_len ∧ type_of% @hmM_len := ⟨@md_take, @md_len, (@drop_rep UInt8), (@drop_rep D), (@List.take_zero UInt8), (@List.take_zero D), @padK_len, @hmM_len⟩
end UoPad_fc
open UoPad_fc
theorem oPad_fc (k : List UInt8) (x : UInt8) (hk : k.length ≤ 64) : FC Tryd.prog GE 119 [.rob k, .u8 x] (.ownb (padK k x)) none := by
  refine fi_ 27 [4] ti_eq gpE Tryd.func119 (fun C hE hm hP hrc hrn => ?_)
  refine A_ ?_
  first | refine O_ ?_ | refine OD_ hm ?_
  refine G_ 200 hE ?_
  refine rc_ hE hP (repeat_fc x) Tryd.func122 ?_
  refine G_ 200 hE ?_
  first | refine rz ?_ | refine ZD_ ?_
  rw [← padO_zero k x]
  refine A_ ?_
  refine vl (fun i : Nat => ⟨[(5, .sl 10 1 0 64), (11, .rob k), (12, .int .i64 k.length), (13, .int .i64 i)], [(10, ⟨⟨1, 1, 64⟩, some (.bytes (padO k x i))⟩)], []⟩) (fun i => i ≤ k.length) (fun i => k.length - i) 0 ?_ (Nat.zero_le _) (fun i hi => ?_)
  · exact wk_ hrc
  · have hl := padO_len k x i hi hk
    repeat' (first | refine A1_ ?_ | refine C_ hE (fun hc => ?_) (fun hc => ?_) <;> (try (exfalso; omega)))
    · rw [padO_set k x (show i < k.length by omega) hk]
      refine lq_n (i + 1) ?_ (by omega) (by omega)
      exact wk_ hrc
    · obtain rfl : i = k.length := by omega
      rw [padO_end k x] at hl ⊢
      repeat' (first | refine A1_ ?_ | refine C_ hE (fun hc => ?_) (fun hc => ?_) <;> (try (exfalso; omega)))
      exact ret_

theorem oMac_fc (k : List UInt8) (ps : List (List UInt8)) (hk : k.length ≤ 10000000) (hn : ps.length ≤ 100000) (hb : ps.flatten.length ≤ 10000000000) : FC Tryd.prog GO 106 [.rob k, .rof 1 ps.length (fun i _ => .rob (ps.getD i []))] (.aggb (hmM k ps.flatten)) none := by
  refine fic_ 25 ti_eq gpO Tryd.func106 (fun C hE hm hP hrc hrn => ?_)
  have hsc := rob_rsc ps
  by_cases hk64 : 64 < k.length
  · have hq := hmM_def k (md k) ps.flatten (kfitM_big hk64).symm
    have h32 : (md k).length ≤ 64 := by rw [md_len]; decide
    have hp1 := padK_len 54 h32
    have hp2 := padK_len 92 h32
    have hs := md_len k
    rw [hq]
    clear hq
    repeat' (first | refine A1_ ?_ | refine C_ hE (fun hc => ?_) (fun hc => ?_) <;> (try (exfalso; omega)))
    first | refine O_ ?_ | refine OD_ hm ?_
    refine G_ 200 hE ?_
    refine rc_ hE hP (oOf1_fc k (by omega)) Tryd.func74 ?_
    refine G_ 200 hE ?_
    first | refine rz ?_ | refine ZD_ ?_
    refine A_ ?_
    repeat' (first | refine A1_ ?_ | refine C_ hE (fun hc => ?_) (fun hc => ?_) <;> (try (exfalso; omega)))
    generalize md k = Q at *
    first | refine O_ ?_ | refine OD_ hm ?_
    refine G_ 200 hE ?_
    refine rc_ hE hP ((oPad_fc Q 54 h32).any) Tryd.func119 ?_
    refine rg_w (sgb_ 15 15) ?_
    refine G_ 3 hE ?_
    rw [rob_range, rob_cons, Nat.add_comm 1 ps.length]
    refine rc_ hE hP (oOfC_fc (padK Q 54) ps hn (by omega)) Tryd.func74 ?_
    refine G_ 200 hE ?_
    first | refine rz ?_ | refine ZD_ ?_
    refine A_ ?_
    first | refine O_ ?_ | refine OD_ hm ?_
    refine G_ 200 hE ?_
    refine rc_ hE hP ((oPad_fc Q 92 h32).any) Tryd.func119 ?_
    refine G_ 2 hE ?_
    refine rc_ hE hP (oOf2_fc (padK Q 92) (md (padK Q 54 ++ ps.flatten)) (by rw [md_len]; omega)) Tryd.func74 ?_
    refine G_ 200 hE ?_
    first | refine rz ?_ | refine ZD_ ?_
    refine A_ ?_
    exact retc_
  · have hq := hmM_def k k ps.flatten (kfitM_small hk64).symm
    have h32 : k.length ≤ 64 := by omega
    have hp1 := padK_len 54 h32
    have hp2 := padK_len 92 h32
    rw [hq]
    clear hq
    repeat' (first | refine A1_ ?_ | refine C_ hE (fun hc => ?_) (fun hc => ?_) <;> (try (exfalso; omega)))
    first | refine O_ ?_ | refine OD_ hm ?_
    refine G_ 200 hE ?_
    refine rc_ hE hP ((oPad_fc k 54 h32).any) Tryd.func119 ?_
    refine rg_w (sgb_ 15 15) ?_
    refine G_ 3 hE ?_
    rw [rob_range, rob_cons, Nat.add_comm 1 ps.length]
    refine rc_ hE hP (oOfC_fc (padK k 54) ps hn (by omega)) Tryd.func74 ?_
    refine G_ 200 hE ?_
    first | refine rz ?_ | refine ZD_ ?_
    refine A_ ?_
    first | refine O_ ?_ | refine OD_ hm ?_
    refine G_ 200 hE ?_
    refine rc_ hE hP ((oPad_fc k 92 h32).any) Tryd.func119 ?_
    refine G_ 2 hE ?_
    refine rc_ hE hP (oOf2_fc (padK k 92) (md (padK k 54 ++ ps.flatten)) (by rw [md_len]; omega)) Tryd.func74 ?_
    refine G_ 200 hE ?_
    first | refine rz ?_ | refine ZD_ ?_
    refine A_ ?_
    exact retc_

theorem roMac_fc (k m : List UInt8) (hk : k.length ≤ 10000000) (hb : m.length ≤ 10000000000) : FC Tryd.prog GE 112 [.str k, .str m] (.str (hmM k m)) none := by
  refine fi_ 44 [4] ti_eq gpE Tryd.func112 (fun C hE hm hP hrc hrn => ?_)
  by_cases hk64 : 64 < k.length
  · have hq := hmM_def k (md k) m (kfitM_big hk64).symm
    have hs := md_len k
    have h32 : (md k).length ≤ 64 := by omega
    rw [hq]
    clear hq
    repeat' (first | refine A1_ ?_ | refine C_ hE (fun hc => ?_) (fun hc => ?_) <;> (try (exfalso; omega)))
    first | refine O_ ?_ | refine OD_ hm ?_
    refine G_ 200 hE ?_
    refine rc_ hE hP (rMd_fc k (by omega)) Tryd.func87 ?_
    refine G_ 200 hE ?_
    first | refine rz ?_ | refine ZD_ ?_
    refine A_ ?_
    generalize md k = Q at hs h32 ⊢
    refine VC.weak ?_ (kniln 5 29 1 (c := .bytes []) rfl rfl rfl)
    refine VC.weak ?_ (kniln 6 34 1 (c := .bytes []) rfl rfl rfl)
    refine vl (fun i : Nat => ⟨[(0, .str Q), (1, .str m), (5, .sl 29 (1 + i) 0 ((padK Q 54).take i).length), (6, .sl 34 (1 + i) 0 ((padK Q 92).take i).length), (7, .int .i64 i)], [(29, ⟨⟨1 + i, 1, ((padK Q 54).take i).length⟩, some (.bytes ((padK Q 54).take i))⟩), (34, ⟨⟨1 + i, 1, ((padK Q 92).take i).length⟩, some (.bytes ((padK Q 92).take i))⟩)], []⟩) (fun i => i ≤ 64) (fun i => 64 - i) 0 ?_ (Nat.zero_le _) (fun i hi => ?_)
    · exact wk_ hrc
    · have l1 := padK_tl Q 54 i h32 hi
      have l2 := padK_tl Q 92 i h32 hi
      obtain ⟨E1, hE1⟩ : ∃ E, E = (padK Q 54).take i := ⟨_, rfl⟩
      obtain ⟨E2, hE2⟩ : ∃ E, E = (padK Q 92).take i := ⟨_, rfl⟩
      rw [← hE1] at l1 ⊢
      rw [← hE2] at l2 ⊢
      repeat' (first | refine A1_ ?_ | refine C_ hE (fun hc => ?_) (fun hc => ?_) <;> (try (exfalso; omega)))
      · refine lq_n (i + 1) ?_ (by omega) (by omega)
        rw [padK_get Q 54 i h32 (by omega), padK_get Q 92 i h32 (by omega), if_pos (show i < Q.length by omega), ← hE1, ← hE2, List.length_append, List.length_append]
        exact wk_ hrc
      · refine lq_n (i + 1) ?_ (by omega) (by omega)
        rw [padK_get Q 54 i h32 (by omega), padK_get Q 92 i h32 (by omega), if_neg (show ¬i < Q.length by omega), ← hE1, ← hE2, List.length_append, List.length_append]
        exact wk_ hrc
      · obtain rfl : i = 64 := by omega
        have p1 : (padK Q 54).take 64 = padK Q 54 := List.take_of_length_le (by rw [padK_len 54 h32]; decide)
        have p2 : (padK Q 92).take 64 = padK Q 92 := List.take_of_length_le (by rw [padK_len 92 h32]; decide)
        rw [p1] at hE1
        rw [p2] at hE2
        rw [← hE1, ← hE2]
        clear hE1 hE2 p1 p2
        first | refine O_ ?_ | refine OD_ hm ?_
        refine G_ 200 hE ?_
        refine rc_ hE hP (rMd_fc (E1 ++ m) (by rw [List.length_append]; omega)) Tryd.func87 ?_
        refine G_ 1 hE ?_
        refine rc_ hE hP (rMd_fc (E2 ++ md (E1 ++ m)) (by rw [List.length_append, md_len]; omega)) Tryd.func87 ?_
        refine G_ 200 hE ?_
        first | refine rz ?_ | refine ZD_ ?_
        refine A_ ?_
        exact ret_
  · have hq := hmM_def k k m (kfitM_small hk64).symm
    have h32 : k.length ≤ 64 := by omega
    rw [hq]
    clear hq
    repeat' (first | refine A1_ ?_ | refine C_ hE (fun hc => ?_) (fun hc => ?_) <;> (try (exfalso; omega)))
    refine VC.weak ?_ (kniln 5 29 1 (c := .bytes []) rfl rfl rfl)
    refine VC.weak ?_ (kniln 6 34 1 (c := .bytes []) rfl rfl rfl)
    refine vl (fun i : Nat => ⟨[(0, .str k), (1, .str m), (5, .sl 29 (1 + i) 0 ((padK k 54).take i).length), (6, .sl 34 (1 + i) 0 ((padK k 92).take i).length), (7, .int .i64 i)], [(29, ⟨⟨1 + i, 1, ((padK k 54).take i).length⟩, some (.bytes ((padK k 54).take i))⟩), (34, ⟨⟨1 + i, 1, ((padK k 92).take i).length⟩, some (.bytes ((padK k 92).take i))⟩)], []⟩) (fun i => i ≤ 64) (fun i => 64 - i) 0 ?_ (Nat.zero_le _) (fun i hi => ?_)
    · exact wk_ hrc
    · have l1 := padK_tl k 54 i h32 hi
      have l2 := padK_tl k 92 i h32 hi
      obtain ⟨E1, hE1⟩ : ∃ E, E = (padK k 54).take i := ⟨_, rfl⟩
      obtain ⟨E2, hE2⟩ : ∃ E, E = (padK k 92).take i := ⟨_, rfl⟩
      rw [← hE1] at l1 ⊢
      rw [← hE2] at l2 ⊢
      repeat' (first | refine A1_ ?_ | refine C_ hE (fun hc => ?_) (fun hc => ?_) <;> (try (exfalso; omega)))
      · refine lq_n (i + 1) ?_ (by omega) (by omega)
        rw [padK_get k 54 i h32 (by omega), padK_get k 92 i h32 (by omega), if_pos (show i < k.length by omega), ← hE1, ← hE2, List.length_append, List.length_append]
        exact wk_ hrc
      · refine lq_n (i + 1) ?_ (by omega) (by omega)
        rw [padK_get k 54 i h32 (by omega), padK_get k 92 i h32 (by omega), if_neg (show ¬i < k.length by omega), ← hE1, ← hE2, List.length_append, List.length_append]
        exact wk_ hrc
      · obtain rfl : i = 64 := by omega
        have p1 : (padK k 54).take 64 = padK k 54 := List.take_of_length_le (by rw [padK_len 54 h32]; decide)
        have p2 : (padK k 92).take 64 = padK k 92 := List.take_of_length_le (by rw [padK_len 92 h32]; decide)
        rw [p1] at hE1
        rw [p2] at hE2
        rw [← hE1, ← hE2]
        clear hE1 hE2 p1 p2
        first | refine O_ ?_ | refine OD_ hm ?_
        refine G_ 200 hE ?_
        refine rc_ hE hP (rMd_fc (E1 ++ m) (by rw [List.length_append]; omega)) Tryd.func87 ?_
        refine G_ 1 hE ?_
        refine rc_ hE hP (rMd_fc (E2 ++ md (E1 ++ m)) (by rw [List.length_append, md_len]; omega)) Tryd.func87 ?_
        refine G_ 200 hE ?_
        first | refine rz ?_ | refine ZD_ ?_
        refine A_ ?_
        exact ret_

end Go.Proofs.YtocfhkmdkdjinaaDoor
