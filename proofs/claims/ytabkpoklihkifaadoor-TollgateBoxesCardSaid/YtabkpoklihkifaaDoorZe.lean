/- What the claim leans on, text Ze: Rot, Sha, Abs, ShaC, ShaF, Press, ShaRef, ShaP, ShaL. No condition beyond what each lemma states. -/
import Derived.Test.YtabkpoklihkifaaDoorChecked
import Derived.Test.YtabkpoklihkifaaDoorZa
import Derived.BigQuiet
import Derived.Deep.QuietTactic
import Derived.Deep.RegionHeld3
import Derived.Deep.DeepFit
import Derived.Test.YtabkpoklihkifaaDoorZd
import Derived.StillTailTactics
import Derived.BigRegion
import Derived.Deep.Cut
import Derived.Deep.Draws

/- The contracts of bits.RotateLeft32 and of hash.right. -/
namespace Go.Proofs.YtabkpoklihkifaaDoor
open Go.RowKit
set_option linter.unusedVariables false
set_option linter.unusedSimpArgs false
attribute [local go_sem ↓] run_slice_l' run_slice_lh' run_slice_h' run_index_str run_slice_str_l run_slice_str_h run_slice_str_lh
attribute [local go_sem] str_size str_append str_toL Lib.run_eql_slice_nil
attribute [local go_sem ↓] bin_add32 bin_xor32 bin_and32 bin_or32 bin_shl32 bin_shr32

/-- A word turned to the left by s places. -/
def rol32 (x : UInt32) (s : Nat) : UInt32 := shl32 x s ||| shr32 x (32 - s)

theorem rot_any (x : UInt32) (k : Int) (s : Nat) (hs : bits .and .u64 (IntKind.u64.wrap k) 31 = (s : Int)) (h : s ≤ 31) (w : World) :
    Calls Tryd.prog 31 #[u32v x, .int .i64 k] w fun e w' => e = .returned (u32v (rol32 x s)) ∧ w' = w := by
  have i0 : (0 : Int) ≤ (s : Int) := by omega
  have e2 : ((32 : Int) - (s : Int)).toNat = 32 - s := by omega
  have i2 : (s : Int) ≤ 32 := by omega
  have w2 : IntKind.u64.wrap (32 - (s : Int)) = 32 - (s : Int) := by simp [IntKind.wrap, IntKind.bits, IntKind.signed]; omega
  go_enter Tryd.func31, Tryd.ntmps31
  go_wp2_with fail
  exact bodyPost_ret (v := u32v (rol32 x s)) (by simp [results, Tryd.results31, go_sem, rol32, e2]) rfl ⟨rfl, rfl⟩

/-- A word turned to the right by n places. -/
def rotr (x : UInt32) (n : Nat) : UInt32 := rol32 x (32 - n)
theorem right_amt : ∀ n : Nat, n < 32 → 1 ≤ n → bits .and .u64 (IntKind.u64.wrap (-(n : Int))) 31 = ((32 - n : Nat) : Int) := by decide
theorem right_any (x : UInt32) (n : Nat) (h1 : 1 ≤ n) (h2 : n < 32) (w : World) :
    Calls Tryd.prog 30 #[u32v x, .int .i64 n] w fun e w' => e = .returned (u32v (rotr x n)) ∧ w' = w := by
  have wn : IntKind.i64.wrap (-(n : Int)) = -(n : Int) := w64 (by omega) (by omega)
  go_enter Tryd.func30, Tryd.ntmps30
  go_wp2_with fail
  refine (rot_any x (-(n : Int)) (32 - n) (right_amt n h2 h1) (by omega) w).mono ?_
  rintro e w' ⟨rfl, rfl⟩
  go_wp2_with fail
  exact bodyPost_ret (v := u32v (rotr x n)) (by simp [results, Tryd.results30, go_sem, rotr]) rfl ⟨rfl, rfl⟩
theorem right_int (x : UInt32) (k : Int) (h1 : 1 ≤ k) (h2 : k < 32) (w : World) :
    Calls Tryd.prog 30 #[u32v x, .int .i64 k] w fun e w' => e = .returned (u32v (rotr x k.toNat)) ∧ w' = w := by
  have h := right_any x k.toNat (by omega) (by omega) w
  rwa [Int.toNat_of_nonneg (by omega)] at h
end Go.Proofs.YtabkpoklihkifaaDoor

/- SHA-256 in plain Lean. -/
namespace Go.Proofs.YtabkpoklihkifaaDoor
open Go.RowKit
set_option linter.unusedVariables false

structure H8 where
  (a b c d e f g k : UInt32)
def H8.cells (h : H8) : Array Value := #[u32v h.a, u32v h.b, u32v h.c, u32v h.d, u32v h.e, u32v h.f, u32v h.g, u32v h.k]
def H8.val (h : H8) : Value := .agg h.cells
/-- The word of four bytes at a place. -/
def bword (b : List UInt8) (j : Nat) : UInt32 := shl32 (gb b j).toUInt32 24 ||| shl32 (gb b (j + 1)).toUInt32 16 ||| shl32 (gb b (j + 2)).toUInt32 8 ||| (gb b (j + 3)).toUInt32
def sig0 (x : UInt32) : UInt32 := rotr x 7 ^^^ rotr x 18 ^^^ shr32 x 3
def sig1 (y : UInt32) : UInt32 := rotr y 17 ^^^ rotr y 19 ^^^ shr32 y 10
/-- The schedule of a block. -/
def wk (b : List UInt8) (i : Nat) : UInt32 :=
  if h : i < 16 then bword b (4 * i) else wk b (i - 16) + wk b (i - 7) + sig0 (wk b (i - 15)) + sig1 (wk b (i - 2))
termination_by i
decreasing_by all_goals omega
theorem wk_lo (b : List UInt8) {i : Nat} (h : i < 16) : wk b i = bword b (4 * i) := by rw [wk, dif_pos h]
theorem wk_hi (b : List UInt8) {i : Nat} (h : ¬ i < 16) : wk b i = wk b (i - 16) + wk b (i - 7) + sig0 (wk b (i - 15)) + sig1 (wk b (i - 2)) := by rw [wk, dif_neg h]
/-- The rounds' constants, and the beginning. -/
def kt : List UInt32 := [1116352408, 1899447441, 3049323471, 3921009573, 961987163, 1508970993, 2453635748, 2870763221, 3624381080, 310598401, 607225278, 1426881987, 1925078388, 2162078206, 2614888103, 3248222580, 3835390401, 4022224774, 264347078, 604807628, 770255983, 1249150122, 1555081692, 1996064986, 2554220882, 2821834349, 2952996808, 3210313671, 3336571891, 3584528711, 113926993, 338241895, 666307205, 773529912, 1294757372, 1396182291, 1695183700, 1986661051, 2177026350, 2456956037, 2730485921, 2820302411, 3259730800, 3345764771, 3516065817, 3600352804, 4094571909, 275423344, 430227734, 506948616, 659060556, 883997877, 958139571, 1322822218, 1537002063, 1747873779, 1955562222, 2024104815, 2227730452, 2361852424, 2428436474, 2756734187, 3204031479, 3329325298]
def start8 : H8 := ⟨1779033703, 3144134277, 1013904242, 2773480762, 1359893119, 2600822924, 528734635, 1541459225⟩
def kat (i : Nat) : UInt32 := kt.getD i 0
def tmp1 (v : H8) (kw ww : UInt32) : UInt32 := v.k + (rotr v.e 6 ^^^ rotr v.e 11 ^^^ rotr v.e 25) + (v.g ^^^ (v.e &&& (v.f ^^^ v.g))) + kw + ww
def tmp2 (v : H8) : UInt32 := (rotr v.a 2 ^^^ rotr v.a 13 ^^^ rotr v.a 22) + ((v.a &&& v.b) ||| (v.c &&& (v.a ||| v.b)))
def rnd (v : H8) (kw ww : UInt32) : H8 := ⟨tmp1 v kw ww + tmp2 v, v.a, v.b, v.c, v.d + tmp1 v kw ww, v.e, v.f, v.g⟩
def st8 (h : H8) (b : List UInt8) : Nat → H8
  | 0 => h
  | i + 1 => rnd (st8 h b i) (kat i) (wk b i)
def add8 (h v : H8) : H8 := ⟨h.a + v.a, h.b + v.b, h.c + v.c, h.d + v.d, h.e + v.e, h.f + v.f, h.g + v.g, h.k + v.k⟩
/-- A block worked into the sum. -/
def pressS (h : H8) (b : List UInt8) : H8 := add8 h (st8 h b 64)

/-- A row of words in a block. -/
def Ws (w : World) (g : Nat) (t : TypeId) (n : Nat) (f : Nat → UInt32) : Prop := Blk w g t (((List.range n).map fun i => u32v (f i)).toArray)
section
variable {w w' : World} {g n : Nat} {t : TypeId} {f f' : Nat → UInt32}
theorem Ws.facts (h : Ws w g t n f) : (∀ i, i < n → w.cell? ⟨g, i, none⟩ = some (u32v (f i))) ∧ (∀ i, w.frozen? ⟨g, i, none⟩ = false) ∧ g < w.heap.size := by
  refine ⟨fun i hi => ?_, Blk.frozen h, Blk.lt h⟩
  rw [Blk.cell h i]
  simp [hi]
theorem Ws.set_ (h : Ws w g t n f) (i : Nat) (u : UInt32) (hf : ∀ j, j < n → f' j = if j = i then u else f j) : Ws (w.setCell ⟨g, i, none⟩ (u32v u)) g t n f' := by
  have h2 := Blk.set_ h i (u32v u)
  unfold Ws
  have e : (List.map (fun i => u32v (f i)) (List.range n)).toArray.setIfInBounds i (u32v u) = (List.map (fun i => u32v (f' i)) (List.range n)).toArray := ?_
  · rw [← e]; exact h2
  symm
  apply Array.ext'
  simp only [List.setIfInBounds_toArray]
  apply List.ext_getElem
  · simp
  · intro j h1 h2
    simp only [List.length_map, List.length_range] at h1
    simp only [List.getElem_map, List.getElem_range, List.getElem_set]
    rw [hf j h1]
    by_cases hji : j = i
    · simp [hji]
    · rw [if_neg hji, if_neg (fun e => hji e.symm)]
theorem Ws.congr (h : Ws w g t n f) (hf : ∀ j, j < n → f' j = f j) : Ws w g t n f' := by
  unfold Ws at *
  have : (List.range n).map (fun i => u32v (f' i)) = (List.range n).map (fun i => u32v (f i)) := List.map_congr_left fun i hi => by rw [hf i (by simpa using hi)]
  rw [this]
  exact h
theorem Ws.new (w : World) (t : TypeId) (n : Nat) {H : Nat} (hH : H = w.heap.size) (cs : Array Value) (hc : cs = ((List.range n).map fun i => u32v (f i)).toArray) : Ws (w.alloc (.cells cs t)) H t n f := by
  subst hc
  exact Blk.new w t _ hH
end
/-- A package's table. -/
def Tb (w : World) (g : Nat) (l : List UInt32) : Prop := g < w.heap.size ∧ ∀ i, i < l.length → w.cell? ⟨g, i, none⟩ = some (u32v (l.getD i 0))
theorem Tb.below {w w' : World} {g B : Nat} {l : List UInt32} (h : Tb w g l) (hb : Below B w w') (hg : g < B) : Tb w' g l :=
  ⟨Nat.lt_of_lt_of_le h.1 hb.size, fun i hi => (hb.cell (p := ⟨g, i, none⟩) hg).trans (h.2 i hi)⟩
theorem Tb.ext {w w' : World} {g : Nat} {l : List UInt32} (h : Tb w g l) (hb : Below w.heap.size w w') : Tb w' g l := h.below hb h.1
end Go.Proofs.YtabkpoklihkifaaDoor

/- SHA-256 over blocks, in plain Lean. -/
namespace Go.Proofs.YtabkpoklihkifaaDoor
set_option linter.unusedVariables false

theorem bword_congr {b b' : List UInt8} (h : ∀ j, j < 64 → gb b j = gb b' j) {i : Nat} (hi : i < 16) : bword b (4 * i) = bword b' (4 * i) := by
  unfold bword
  rw [h (4 * i) (by omega), h (4 * i + 1) (by omega), h (4 * i + 2) (by omega), h (4 * i + 3) (by omega)]
theorem wk_congr {b b' : List UInt8} (h : ∀ j, j < 64 → gb b j = gb b' j) (i : Nat) : wk b i = wk b' i := by
  induction i using Nat.strongRecOn with
  | _ i ih =>
    by_cases hi : i < 16
    · rw [wk_lo b hi, wk_lo b' hi, bword_congr h hi]
    · rw [wk_hi b hi, wk_hi b' hi, ih (i - 16) (by omega), ih (i - 7) (by omega), ih (i - 15) (by omega), ih (i - 2) (by omega)]
theorem st8_congr {b b' : List UInt8} (h : ∀ j, j < 64 → gb b j = gb b' j) (v : H8) (i : Nat) : st8 v b i = st8 v b' i := by
  induction i with
  | zero => rfl
  | succ i ih => simp only [st8, ih, wk_congr h]
/-- A block's work hangs on its 64 bytes alone. -/
theorem pressS_congr {b b' : List UInt8} (h : ∀ j, j < 64 → gb b j = gb b' j) (v : H8) : pressS v b = pressS v b' := by
  unfold pressS
  rw [st8_congr h]
/-- So many blocks worked in. -/
def abs8 (h : H8) (l : List UInt8) : Nat → H8
  | 0 => h
  | k + 1 => pressS (abs8 h l k) (l.drop (64 * k))
theorem gb_append_left (l m : List UInt8) {j : Nat} (h : j < l.length) : gb (l ++ m) j = gb l j := by
  unfold gb
  simp only [List.getD_eq_getElem?_getD, List.getElem?_append_left h]
theorem gb_drop (l : List UInt8) (k j : Nat) : gb (l.drop k) j = gb l (k + j) := by
  unfold gb
  simp only [List.getD_eq_getElem?_getD, List.getElem?_drop]
theorem gb_take (l : List UInt8) {k j : Nat} (h : j < k) : gb (l.take k) j = gb l j := by
  unfold gb
  simp only [List.getD_eq_getElem?_getD, List.getElem?_take, if_pos h]
theorem abs8_append (h : H8) (l m : List UInt8) : ∀ k, 64 * k ≤ l.length → abs8 h (l ++ m) k = abs8 h l k
  | 0, _ => rfl
  | k + 1, hk => by
    simp only [abs8]
    rw [abs8_append h l m k (by omega)]
    exact pressS_congr (fun j hj => by rw [gb_drop, gb_drop, gb_append_left _ _ (by omega)]) _
theorem abs8_add (h : H8) (l : List UInt8) (i : Nat) : ∀ k, abs8 h l (i + k) = abs8 (abs8 h l i) (l.drop (64 * i)) k
  | 0 => rfl
  | k + 1 => by
    rw [← Nat.add_assoc]
    simp only [abs8]
    rw [abs8_add h l i k, List.drop_drop, Nat.mul_add]

/-- How many noughts stand between the mark and the count. -/
def padZ (n : Nat) : Nat := (119 - n % 64) % 64
/-- The count of bits, in eight bytes. -/
def len8 (n : Nat) : List UInt8 := [UInt8.ofNat (8 * n / 2 ^ 56), UInt8.ofNat (8 * n / 2 ^ 48), UInt8.ofNat (8 * n / 2 ^ 40), UInt8.ofNat (8 * n / 2 ^ 32), UInt8.ofNat (8 * n / 2 ^ 24), UInt8.ofNat (8 * n / 2 ^ 16), UInt8.ofNat (8 * n / 2 ^ 8), UInt8.ofNat (8 * n)]
def pad (l : List UInt8) : List UInt8 := l ++ (128 :: List.replicate (padZ l.length) 0) ++ len8 l.length
theorem pad_length (l : List UInt8) : (pad l).length = l.length + 9 + padZ l.length := by
  simp [pad, len8]
  omega
theorem pad_mod (l : List UInt8) : (pad l).length % 64 = 0 := by
  rw [pad_length]
  unfold padZ
  omega
def word8 (x : UInt32) : List UInt8 := [(shr32 x 24).toUInt8, (shr32 x 16).toUInt8, (shr32 x 8).toUInt8, x.toUInt8]
def out8 (h : H8) : List UInt8 := word8 h.a ++ word8 h.b ++ word8 h.c ++ word8 h.d ++ word8 h.e ++ word8 h.f ++ word8 h.g ++ word8 h.k
/-- THE SUM of all bytes. -/
def sha (l : List UInt8) : List UInt8 := out8 (abs8 start8 (pad l) ((pad l).length / 64))
theorem sha_length (l : List UInt8) : (sha l).length = 32 := rfl

/-- What a state holds of all bytes so far: the sum of its whole blocks, and the rest. -/
def stH (l : List UInt8) : H8 := abs8 start8 l (l.length / 64)
def stW (l : List UInt8) : List UInt8 := l.drop (64 * (l.length / 64))
theorem stW_length (l : List UInt8) : (stW l).length = l.length % 64 := by
  unfold stW
  rw [List.length_drop]
  omega
/-- The sum from a state: the rest is padded, and worked in. -/
theorem sha_of_state (l e : List UInt8) (he : e = stW l ++ (128 :: List.replicate (padZ l.length) 0) ++ len8 l.length) : sha l = out8 (abs8 (stH l) e (e.length / 64)) := by
  have hp : pad l = l.take (64 * (l.length / 64)) ++ e := by
    rw [he, stW, ← List.append_assoc, ← List.append_assoc, List.take_append_drop, pad]
  have hlt : (l.take (64 * (l.length / 64))).length = 64 * (l.length / 64) := by
    rw [List.length_take]; omega
  unfold sha
  have hk : (pad l).length / 64 = l.length / 64 + e.length / 64 := by
    rw [hp, List.length_append, hlt]
    omega
  rw [hk, abs8_add]
  have h1 : abs8 start8 (pad l) (l.length / 64) = stH l := by
    rw [pad, List.append_assoc, abs8_append _ _ _ _ (by omega)]
    rfl
  have h2 : (pad l).drop (64 * (l.length / 64)) = e := by
    rw [hp, List.drop_append_of_le_length (by omega), List.drop_of_length_le (by omega), List.nil_append]
  rw [h1, h2]
end Go.Proofs.YtabkpoklihkifaaDoor

/- SHA-256 reckoned by the kernel: a row of words in turn. -/
namespace Go.Proofs.YtabkpoklihkifaaDoor
set_option linter.unusedVariables false

/-- The schedule's words, the last one first. -/
def wL (b : List UInt8) : Nat → List UInt32
  | 0 => []
  | k + 1 => (if k < 16 then bword b (4 * k) else (wL b k).getD 15 0 + (wL b k).getD 6 0 + sig0 ((wL b k).getD 14 0) + sig1 ((wL b k).getD 1 0)) :: wL b k
theorem wL_get (b : List UInt8) : ∀ (k j : Nat), j < k → (wL b k).getD j 0 = wk b (k - 1 - j)
  | 0, j, h => absurd h (by omega)
  | k + 1, 0, h => by
    simp only [wL, List.getD_cons_zero, Nat.add_sub_cancel, Nat.sub_zero]
    split
    · rename_i hk; rw [wk_lo b hk]
    · rename_i hk
      rw [wk_hi b hk, wL_get b k 15 (by omega), wL_get b k 6 (by omega), wL_get b k 14 (by omega), wL_get b k 1 (by omega)]
      rw [show k - 1 - 15 = k - 16 by omega, show k - 1 - 6 = k - 7 by omega, show k - 1 - 14 = k - 15 by omega, show k - 1 - 1 = k - 2 by omega]
  | k + 1, j + 1, h => by
    simp only [wL, List.getD_cons_succ]
    rw [wL_get b k j (by omega)]
    congr 1
    omega
theorem wL_len (b : List UInt8) : ∀ k, (wL b k).length = k
  | 0 => rfl
  | k + 1 => by simp [wL, wL_len b k]
/-- Rounds over two rows of words. -/
def goL : List UInt32 → List UInt32 → H8 → H8
  | k :: ks, w :: ws, v => goL ks ws (rnd v k w)
  | _, _, v => v
theorem goL_st (h : H8) (b : List UInt8) : ∀ (n i : Nat) (ks ws : List UInt32), ks.length = n → ws.length = n → (∀ j, j < n → ks.getD j 0 = kat (i + j)) → (∀ j, j < n → ws.getD j 0 = wk b (i + j)) → goL ks ws (st8 h b i) = st8 h b (i + n)
  | 0, i, ks, ws, h1, h2, _, _ => by
    rw [List.eq_nil_of_length_eq_zero h1]
    rfl
  | n + 1, i, k :: ks, w :: ws, h1, h2, h3, h4 => by
    have e1 := h3 0 (by omega)
    have e2 := h4 0 (by omega)
    simp only [List.getD_cons_zero, Nat.add_zero] at e1 e2
    simp only [goL]
    rw [e1, e2]
    have := goL_st h b n (i + 1) ks ws (by simpa using h1) (by simpa using h2) (fun j hj => by have := h3 (j + 1) (by omega); simp only [List.getD_cons_succ] at this; rw [this]; congr 1; omega) (fun j hj => by have := h4 (j + 1) (by omega); simp only [List.getD_cons_succ] at this; rw [this]; congr 1; omega)
    rw [show i + (n + 1) = i + 1 + n by omega, ← this]
    rfl
def pressC (h : H8) (b : List UInt8) : H8 := add8 h (goL kt (wL b 64).reverse h)
theorem pressC_eq (h : H8) (b : List UInt8) : pressC h b = pressS h b := by
  unfold pressC pressS
  have := goL_st h b 64 0 kt (wL b 64).reverse rfl (by simp [wL_len]) (fun j hj => by simp [kat]) (fun j hj => by
    rw [List.getD_eq_getElem?_getD, List.getElem?_reverse (by rw [wL_len]; exact hj), ← List.getD_eq_getElem?_getD, wL_len, wL_get b 64 _ (by omega)]
    congr 1
    omega)
  rw [Nat.zero_add] at this
  rw [← this]
  rfl
def absC (h : H8) (l : List UInt8) : Nat → H8
  | 0 => h
  | k + 1 => pressC (absC h l k) (l.drop (64 * k))
theorem absC_eq (h : H8) (l : List UInt8) : ∀ k, absC h l k = abs8 h l k
  | 0 => rfl
  | k + 1 => by simp only [absC, abs8, pressC_eq, absC_eq h l k]
def shaC (l : List UInt8) : List UInt8 := out8 (absC start8 (pad l) ((pad l).length / 64))
theorem shaC_eq (l : List UInt8) : shaC l = sha l := by unfold shaC sha; rw [absC_eq]
theorem sha_abc : gb (shaC [97, 98, 99]) 0 = 186 ∧ gb (shaC [97, 98, 99]) 1 = 120 ∧ gb (shaC [97, 98, 99]) 31 = 173 := by decide +kernel
end Go.Proofs.YtabkpoklihkifaaDoor

/- SHA-256's tables as the abstract state reads them; what a state holds; the contracts of press and right. -/
namespace Go.Proofs.YtabkpoklihkifaaDoor
open Go Go.RowKit
set_option linter.unusedVariables false
set_option linter.unusedSimpArgs false

def H8.ds (h : H8) : List D := [.u32 h.a, .u32 h.b, .u32 h.c, .u32 h.d, .u32 h.e, .u32 h.f, .u32 h.g, .u32 h.k]
/-- What a state holds, of all bytes so far. -/
def stC (l : List UInt8) : List D := [.u32 (stH l).a, .u32 (stH l).b, .u32 (stH l).c, .u32 (stH l).d, .u32 (stH l).e, .u32 (stH l).f, .u32 (stH l).g, .u32 (stH l).k, .ownb (stW l), .int .i64 l.length]
def startL : List UInt32 := [1779033703, 3144134277, 1013904242, 2773480762, 1359893119, 2600822924, 528734635, 1541459225]
/-- The package-level tables. -/
def GS (g : Nat) : Option D :=
  match g with
  | 0 => some (.rpf 0 0 8 1 (fun _ j => .u32 (startL.getD j 0)))
  | 1 => some (.rpf 0 0 1 64 (fun i _ => .u32 (kat i)))
  | _ => none
theorem gpS : ∀ g cs, GS g = some cs → cs.pf0 = true := by
  intro g cs h
  unfold GS at h
  split at h <;> first | (injection h with h; subst h; rfl) | cases h
end Go.Proofs.YtabkpoklihkifaaDoor

/- The contract of hash.press. -/
namespace Go.Proofs.YtabkpoklihkifaaDoor
open Go.RowKit
set_option linter.unusedVariables false
set_option linter.unusedSimpArgs false
attribute [local go_sem ↓] run_slice_l' run_slice_lh' run_slice_h' run_index_str run_slice_str_l run_slice_str_h run_slice_str_lh
attribute [local go_sem] str_size str_append str_toL Lib.run_eql_slice_nil
attribute [local go_sem ↓] bin_add32 bin_xor32 bin_and32 bin_or32 bin_shl32 bin_shr32 run_u32_of_u8 run_u8_of_u32
attribute [local go_sem] run_store_u32

/-- What stands through the call: the boxes of h, of the result and of the schedule. -/
def Px (w wr : World) (g0 g1 g2 : Nat) (h : H8) (f : Nat → UInt32) : Prop :=
  Below g0 w wr ∧ Blk wr g0 75 h.cells ∧ Blk wr g1 75 #[.int .u32 0, .int .u32 0, .int .u32 0, .int .u32 0, .int .u32 0, .int .u32 0, .int .u32 0, .int .u32 0] ∧ Ws wr g2 79 64 f
section
variable {w wr : World} {g0 g1 g2 : Nat} {h : H8} {f f' : Nat → UInt32}
theorem Px.drew (k : Px w wr g0 g1 g2 h f) : Px w wr.drew g0 g1 g2 h f := ⟨k.1.drew, k.2.1.drew, k.2.2.1.drew, Blk.drew k.2.2.2⟩
theorem Px.drewN (k : Px w wr g0 g1 g2 h f) (n : Nat) : Px w (wr.drewN n) g0 g1 g2 h f := ⟨below_drewN k.1 n, k.2.1.drewN n, k.2.2.1.drewN n, Blk.drewN k.2.2.2 n⟩
theorem Px.set_ (k : Px w wr g0 g1 g2 h f) (h0 : g0 < g1) (h1 : g1 < g2) (i : Nat) (u : UInt32) (hf : ∀ j, j < 64 → f' j = if j = i then u else f j) : Px w (wr.setCell ⟨g2, i, none⟩ (u32v u)) g0 g1 g2 h f' :=
  ⟨k.1.setCell (by show g0 ≤ g2; omega) _, k.2.1.far (by show g0 ≠ g2; omega) _, k.2.2.1.far (by show g1 ≠ g2; omega) _, Ws.set_ k.2.2.2 i u hf⟩
end
/-- The schedule so far. -/
def upto (b : List UInt8) (j : Nat) : Nat → UInt32 := fun x => if x < j then wk b x else 0
theorem upto_lt (b : List UInt8) {j x : Nat} (h : x < j) : upto b j x = wk b x := if_pos h
theorem upto_set (b : List UInt8) (j : Nat) : ∀ x, x < 64 → upto b (j + 1) x = if x = j then wk b j else upto b j x := by
  intro x _
  unfold upto
  by_cases hxj : x = j
  · subst hxj; simp
  · rw [if_neg hxj]
    by_cases hx2 : x < j
    · rw [if_pos hx2, if_pos (by omega)]
    · rw [if_neg hx2, if_neg (by omega)]

set_option maxRecDepth 100000 in
set_option maxHeartbeats 8000000 in
theorem press_any {B : Nat} (h : H8) (A : Option Addr) (n cap : Nat) (b : List UInt8) (w : World) (rd : Rd w B A n cap b) (hn : 64 ≤ n) (tb : Tb w 1 kt) :
    Calls Tryd.prog 29 #[h.val, .slice A n cap] w fun e w' => e = .returned (pressS h b).val ∧ Below w.heap.size w w' := by
  obtain ⟨bk, off, rfl, hbB, hc⟩ := rd.at_ (by omega)
  have hB := rd.bd
  have hbw : bk < w.heap.size := by omega
  have h1w : 1 < w.heap.size := tb.1
  unfold H8.val H8.cells
  have hc' := hid hc
  have tb' := hid tb
  clear hc tb
  go_enter Tryd.func29, Tryd.ntmps29
  go_wp2_with fail
  refine wp_abs (fun W => Px w W w.heap.size (w.heap.size + 1) (w.heap.size + 1 + 1) h (upto b 0)) ⟨?_, ?_, ?_, ?_⟩ ?_
  · exact ((((Below.refl _ _).alloc (Nat.le_refl _) _).alloc (by simp) _).alloc (by simp; omega) _)
  · exact ((Blk.new _ _ _ rfl).alloc _).alloc _
  · exact (Blk.new _ _ _ (by simp)).alloc _
  · exact Ws.new _ _ _ (by simp) _ rfl
  have hg1 : w.heap.size < w.heap.size + 1 := by omega
  have hg2 : w.heap.size + 1 < w.heap.size + 1 + 1 := by omega
  have hH : w.heap.size ≤ w.heap.size := Nat.le_refl _
  generalize w.heap.size + 1 + 1 = g2 at *
  generalize w.heap.size + 1 = g1 at *
  generalize hg0 : w.heap.size = g0 at *
  rintro W pW
  have pW' := hid pW
  have hg0' := hid hg0
  clear pW hg0
  go_loopw [22] (fun i wr => ∃ j : Nat, j ≤ 16 ∧ i = .int .i64 j ∧ Px w wr g0 g1 g2 h (upto b j)) (fun i _ => 16 - (intOf i).toNat)
  case atStart => exact ⟨0, by omega, rfl, pW'.out⟩
  case round =>
    obtain ⟨j, hj, rfl, px⟩ := hrel
    by_cases hlt : j < 16
    · have ps := hid px
      have hb := px.1
      obtain ⟨f1, f2, f3⟩ := px.2.2.2.facts
      have f0 := f1 j (by omega)
      have c0 : wr.cell? ⟨bk, off + 4 * j, none⟩ = some (u8 (gb b (4 * j))) := (hb.cell (p := ⟨bk, off + 4 * j, none⟩) (by show bk < g0; omega)).trans (hc'.out (4 * j) (by omega))
      have c1 : wr.cell? ⟨bk, off + 4 * j + 1, none⟩ = some (u8 (gb b (4 * j + 1))) := (hb.cell (p := ⟨bk, off + 4 * j + 1, none⟩) (by show bk < g0; omega)).trans (hc'.out (4 * j + 1) (by omega))
      have c2 : wr.cell? ⟨bk, off + 4 * j + 2, none⟩ = some (u8 (gb b (4 * j + 2))) := (hb.cell (p := ⟨bk, off + 4 * j + 2, none⟩) (by show bk < g0; omega)).trans (hc'.out (4 * j + 2) (by omega))
      have c3 : wr.cell? ⟨bk, off + 4 * j + 3, none⟩ = some (u8 (gb b (4 * j + 3))) := (hb.cell (p := ⟨bk, off + 4 * j + 3, none⟩) (by show bk < g0; omega)).trans (hc'.out (4 * j + 3) (by omega))
      have hle := rd.le
      have t0 : ((4 : Int) * (j : Int)).toNat = 4 * j := by omega
      have t1 : ((4 : Int) * (j : Int) + 4).toNat = 4 * j + 4 := by omega
      have w0 : IntKind.i64.wrap ((4 : Int) * (j : Int)) = 4 * (j : Int) := w64 (by omega) (by omega)
      have w1 : IntKind.i64.wrap ((4 : Int) * (j : Int) + 4) = 4 * (j : Int) + 4 := w64 (by omega) (by omega)
      have b0 : (0 : Int) ≤ (j : Int) := by omega
      have b1 : (4 : Int) * (j : Int) + 4 ≤ (cap : Int) := by omega
      have b2 : (j : Int) < 64 := by omega
      have b3 : (j : Int) < 16 := by omega
      have hcut : cutA (some ⟨bk, off, none⟩) cap (4 * j) 1 = some ⟨bk, off + 4 * j, none⟩ := by
        unfold cutA
        rw [if_neg (by omega)]
        simp [add_lit]
      have hd : 4 * j + 4 - 4 * j = 4 := by omega
      clear f1 hb px
      go_wp2_with fail
      go_still_tail 24, (by kernel_rfl)
      change wpList _ _ _ _ _ wr.drew
      have hq : ∀ x, (storeCells ⟨g2, j, none⟩ [u32v x] 0).run Tryd.prog wr.drew = .ok () (wr.drew.setCell ⟨g2, j, none⟩ (u32v x)) := fun x => run_store_u32 _ _ _ (by go_simp) (by go_simp)
      go_wp2_with fail
      rw [hq]
      clear hq
      go_simp
      go_wp2_with fail
      go_roundw
      case rel =>
        have e : shl32 (gb b (4 * j)).toUInt32 24 ||| shl32 (gb b (4 * j + 1)).toUInt32 16 ||| shl32 (gb b (4 * j + 2)).toUInt32 8 ||| (gb b (4 * j + 3)).toUInt32 = wk b j := (wk_lo b hlt).symm
        rw [e]
        exact ⟨j + 1, by omega, by go_num, ps.out.drew.set_ hg1 hg2 j _ (upto_set b j)⟩
      case measure => simp [intOf]; omega
    · obtain rfl : j = 16 := by omega
      have ps := hid px
      clear px pW'
      go_wp2_with fail
      go_loopw [8] (fun i wr => ∃ j : Nat, 16 ≤ j ∧ j ≤ 64 ∧ i = .int .i64 j ∧ Px w wr g0 g1 g2 h (upto b j)) (fun i _ => 64 - (intOf i).toNat)
      case atStart => exact ⟨16, by omega, by omega, rfl, ps.out⟩
      case round =>
        clear ps
        obtain ⟨j, h16, hj, rfl, px⟩ := hrel
        by_cases hlt : j < 64
        · have ps := hid px
          obtain ⟨f1, f2, f3⟩ := px.2.2.2.facts
          have f0 := f1 j (by omega)
          have e2 := f1 (j - 2) (by omega)
          have e7 := f1 (j - 7) (by omega)
          have e15 := f1 (j - 15) (by omega)
          have e16 := f1 (j - 16) (by omega)
          rw [upto_lt b (by omega)] at e2 e7 e15 e16
          have t2 : ((j : Int) - 2).toNat = j - 2 := by omega
          have t7 : ((j : Int) - 7).toNat = j - 7 := by omega
          have t15 : ((j : Int) - 15).toNat = j - 15 := by omega
          have t16 : ((j : Int) - 16).toNat = j - 16 := by omega
          have w2 : IntKind.i64.wrap ((j : Int) - 2) = (j : Int) - 2 := w64 (by omega) (by omega)
          have w7 : IntKind.i64.wrap ((j : Int) - 7) = (j : Int) - 7 := w64 (by omega) (by omega)
          have w15 : IntKind.i64.wrap ((j : Int) - 15) = (j : Int) - 15 := w64 (by omega) (by omega)
          have w16 : IntKind.i64.wrap ((j : Int) - 16) = (j : Int) - 16 := w64 (by omega) (by omega)
          have b0 : (0 : Int) ≤ (j : Int) := by omega
          have b2 : (2 : Int) ≤ (j : Int) := by omega
          have b7 : (7 : Int) ≤ (j : Int) := by omega
          have b15 : (15 : Int) ≤ (j : Int) := by omega
          have b16 : (16 : Int) ≤ (j : Int) := by omega
          have d0 : (j : Int) < 64 := by omega
          have d2 : (j : Int) - 2 < 64 := by omega
          have d7 : (j : Int) - 7 < 64 := by omega
          have d15 : (j : Int) - 15 < 64 := by omega
          have d16 : (j : Int) - 16 < 64 := by omega
          clear f1 px
          go_wp2_with fail
          go_quiet (fail)
          refine then_abs (fun X => Px w X g0 g1 g2 h (upto b j)) (ps.out.drewN _) ?_
          clear f0 e2 e7 e15 e16 f2 f3 ps
          rintro X px
          have ps := hid px
          obtain ⟨f1, f2, f3⟩ := px.2.2.2.facts
          have f0 := f1 j (by omega)
          have e7 := f1 (j - 7) (by omega)
          have e16 := f1 (j - 16) (by omega)
          rw [upto_lt b (by omega)] at e7 e16
          clear f1 px
          go_wp2_with fail
          refine wp_region_still_tail 29 (by kernel_rfl) (by kernel_rfl) ?_
          simp only [List.take_succ_cons, List.take_zero, List.drop_succ_cons, List.drop_zero]
          repeat (first
            | still_step
            | still_call (right_int _ _ (by omega) (by omega) _))
          refine wpStill_nil ?_
          change wpList _ _ _ _ _ X.drew
          have hq : ∀ x, (storeCells ⟨g2, j, none⟩ [u32v x] 0).run Tryd.prog X.drew = .ok () (X.drew.setCell ⟨g2, j, none⟩ (u32v x)) := fun x => run_store_u32 _ _ _ (by go_simp) (by go_simp)
          go_wp2_with fail
          rw [hq]
          clear hq
          go_simp
          go_wp2_with fail
          go_roundw
          case rel =>
            have e : wk b (j - 16) + wk b (j - 7) + (rotr (wk b (j - 15)) 7 ^^^ rotr (wk b (j - 15)) 18 ^^^ shr32 (wk b (j - 15)) 3) + (rotr (wk b (j - 2)) 17 ^^^ rotr (wk b (j - 2)) 19 ^^^ shr32 (wk b (j - 2)) 10) = wk b j := (wk_hi b (by omega)).symm
            iterate 44 (apply Exists.intro)
            refine ⟨?_, rfl⟩
            rw [show _ = wk b j from e]
            exact ⟨j + 1, by omega, by omega, by go_num, ps.out.drew.set_ hg1 hg2 j _ (upto_set b j)⟩
          case measure => simp [intOf]; omega
        · obtain rfl : j = 64 := by omega
          have ps := hid px
          have a0 : wr.cell? ⟨g0, 0, none⟩ = some (u32v h.a) := px.2.1.cell 0
          have a1 : wr.cell? ⟨g0, 1, none⟩ = some (u32v h.b) := px.2.1.cell 1
          have a2 : wr.cell? ⟨g0, 2, none⟩ = some (u32v h.c) := px.2.1.cell 2
          have a3 : wr.cell? ⟨g0, 3, none⟩ = some (u32v h.d) := px.2.1.cell 3
          have a4 : wr.cell? ⟨g0, 4, none⟩ = some (u32v h.e) := px.2.1.cell 4
          have a5 : wr.cell? ⟨g0, 5, none⟩ = some (u32v h.f) := px.2.1.cell 5
          have a6 : wr.cell? ⟨g0, 6, none⟩ = some (u32v h.g) := px.2.1.cell 6
          have a7 : wr.cell? ⟨g0, 7, none⟩ = some (u32v h.k) := px.2.1.cell 7
          clear px
          go_wp2_with fail
          go_quiet (fail)
          refine then_abs (fun X => Px w X g0 g1 g2 h (upto b 64)) (ps.out.drewN _) ?_
          clear a0 a1 a2 a3 a4 a5 a6 a7 ps
          rintro X px
          have ps := hid px
          clear px
          go_wp2_with fail
          go_loopw [11, 12, 13, 14, 15, 16, 17, 18, 114] (fun va vb vc vd ve vf vg vk i wr => ∃ j : Nat, j ≤ 64 ∧ i = .int .i64 j ∧ va = u32v (st8 h b j).a ∧ vb = u32v (st8 h b j).b ∧ vc = u32v (st8 h b j).c ∧ vd = u32v (st8 h b j).d ∧ ve = u32v (st8 h b j).e ∧ vf = u32v (st8 h b j).f ∧ vg = u32v (st8 h b j).g ∧ vk = u32v (st8 h b j).k ∧ Px w wr g0 g1 g2 h (upto b 64)) (fun _ _ _ _ _ _ _ _ i _ => 64 - (intOf i).toNat)
          case atStart => exact ⟨0, by omega, rfl, rfl, rfl, rfl, rfl, rfl, rfl, rfl, rfl, ps.out⟩
          case round =>
            clear ps
            obtain ⟨j, hj, rfl, rfl, rfl, rfl, rfl, rfl, rfl, rfl, rfl, px⟩ := hrel
            by_cases hlt : j < 64
            · have ps := hid px
              have f0 := px.2.2.2.facts.1 j hlt
              rw [upto_lt b hlt] at f0
              have tk : Tb wr 1 kt := tb'.out.below px.1 h1w
              have f1 : wr.cell? ⟨1, j, none⟩ = some (u32v (kat j)) := tk.2 j hlt
              have hv : st8 h b (j + 1) = rnd (st8 h b j) (kat j) (wk b j) := rfl
              have hv' := hid hv
              have b0 : (0 : Int) ≤ (j : Int) := by omega
              have d0 : (j : Int) < 64 := by omega
              clear px tk hv
              generalize st8 h b j = v at *
              go_wp2_with fail
              go_quiet ((go_at_call 30; refine Calls.quiet_of_same (right_int _ _ (by omega) (by omega) _)))
              refine then_abs (fun X => Px w X g0 g1 g2 h (upto b 64)) (ps.out.drewN _) ?_
              clear f0 f1 ps
              rintro X px
              have ps := hid px
              clear px
              go_wp2_with (go_at_call 30; refine (right_int _ _ (by omega) (by omega) _).mono ?_; rintro e w' ⟨rfl, rfl⟩)
              go_roundw
              case rel =>
                iterate 71 (apply Exists.intro)
                refine ⟨?_, rfl⟩
                refine ⟨j + 1, by omega, by go_num, ?_, ?_, ?_, ?_, ?_, ?_, ?_, ?_, ps.out⟩ <;> rw [hv'.out] <;> rfl
              case measure => simp [intOf]; omega
            · obtain rfl : j = 64 := by omega
              have ps := hid px
              have a0 : wr.cell? ⟨g0, 0, none⟩ = some (u32v h.a) := px.2.1.cell 0
              have a1 : wr.cell? ⟨g0, 1, none⟩ = some (u32v h.b) := px.2.1.cell 1
              have a2 : wr.cell? ⟨g0, 2, none⟩ = some (u32v h.c) := px.2.1.cell 2
              have a3 : wr.cell? ⟨g0, 3, none⟩ = some (u32v h.d) := px.2.1.cell 3
              have a4 : wr.cell? ⟨g0, 4, none⟩ = some (u32v h.e) := px.2.1.cell 4
              have a5 : wr.cell? ⟨g0, 5, none⟩ = some (u32v h.f) := px.2.1.cell 5
              have a6 : wr.cell? ⟨g0, 6, none⟩ = some (u32v h.g) := px.2.1.cell 6
              have a7 : wr.cell? ⟨g0, 7, none⟩ = some (u32v h.k) := px.2.1.cell 7
              clear px
              generalize hv : st8 h b 64 = v at *
              have hv' := hid hv
              clear hv
              have rW := ps.out.2.2.1
              have rW' := hid rW
              clear rW
              have hq : (storeCells ⟨g1, 0, none⟩ (add8 h v).cells.toList 0).run Tryd.prog wr = .ok () (wr.setRow g1 (add8 h v).cells) := run_storeCells_from (P := Tryd.prog) g1 _ (add8 h v).cells.toList 0 _ wr rW'.out rfl (by intro u hu; simp only [add8, H8.cells, List.mem_cons, List.not_mem_nil, or_false] at hu; rcases hu with rfl | rfl | rfl | rfl | rfl | rfl | rfl | rfl <;> rfl)
              go_wp2_with (refine wpList_build_to rfl 75 _ rfl (add8 h v).cells (by kernel_rfl) ?_)
              clear a0 a1 a2 a3 a4 a5 a6 a7 hq
              have hY : Below g0 w (wr.setRow g1 (add8 h v).cells) ∧ Blk (wr.setRow g1 (add8 h v).cells) g1 75 (add8 h v).cells := ⟨below_setRow ps.out.1 (by omega) _, setRow_heap wr g1 _ _ _ _ rW'.out⟩
              have hY' := hid hY
              clear hY ps rW'
              generalize wr.setRow g1 (add8 h v).cells = X at *
              have hbX' := hid hY'.out.1
              have rX' := hid hY'.out.2
              clear hY'
              have a0 : X.cell? ⟨g1, 0, none⟩ = some (u32v (h.a + v.a)) := rX'.out.cell 0
              have a1 : X.cell? ⟨g1, 1, none⟩ = some (u32v (h.b + v.b)) := rX'.out.cell 1
              have a2 : X.cell? ⟨g1, 2, none⟩ = some (u32v (h.c + v.c)) := rX'.out.cell 2
              have a3 : X.cell? ⟨g1, 3, none⟩ = some (u32v (h.d + v.d)) := rX'.out.cell 3
              have a4 : X.cell? ⟨g1, 4, none⟩ = some (u32v (h.e + v.e)) := rX'.out.cell 4
              have a5 : X.cell? ⟨g1, 5, none⟩ = some (u32v (h.f + v.f)) := rX'.out.cell 5
              have a6 : X.cell? ⟨g1, 6, none⟩ = some (u32v (h.g + v.g)) := rX'.out.cell 6
              have a7 : X.cell? ⟨g1, 7, none⟩ = some (u32v (h.k + v.k)) := rX'.out.cell 7
              refine bodyPost_ret (v := (add8 h v).val) (by simp [results, Tryd.results29, go_sem, a0, a1, a2, a3, a4, a5, a6, a7]; rfl) rfl ⟨?_, ?_⟩
              · unfold pressS
                rw [hv'.out]
                rfl
              · rw [hg0'.out]
                exact hbX'.out
end Go.Proofs.YtabkpoklihkifaaDoor

/- The reference's SHA-256, in plain Lean: its sums and its bits are the code's; and the contracts of turn and constants. -/
namespace Go.Proofs.YtabkpoklihkifaaDoor
open Go.RowKit
set_option linter.unusedVariables false
set_option linter.unusedSimpArgs false
attribute [local go_sem ↓] bin_add32 bin_xor32 bin_and32 bin_or32 bin_shl32 bin_shr32 run_u32_of_u8 run_u8_of_u32

theorem ones32 {i : Nat} (hi : i < 32) : (4294967295#32 : BitVec 32).getLsbD i = true := by
  have : (4294967295#32 : BitVec 32) = BitVec.allOnes 32 := by decide
  rw [this, BitVec.getLsbD_allOnes]
  simpa using hi
theorem ch_eq (e f g : UInt32) : (e &&& f) ^^^ ((4294967295 ^^^ e) &&& g) = g ^^^ (e &&& (f ^^^ g)) := by
  apply UInt32.toBitVec_inj.1
  simp only [UInt32.toBitVec_xor, UInt32.toBitVec_and]
  apply BitVec.eq_of_getLsbD_eq
  intro i hi
  simp only [BitVec.getLsbD_xor, BitVec.getLsbD_and]
  rw [show (4294967295 : UInt32).toBitVec = 4294967295#32 from rfl, ones32 hi]
  cases e.toBitVec.getLsbD i <;> cases f.toBitVec.getLsbD i <;> cases g.toBitVec.getLsbD i <;> rfl
theorem maj_eq (a b c : UInt32) : ((a &&& b) ^^^ (a &&& c)) ^^^ (b &&& c) = (a &&& b) ||| (c &&& (a ||| b)) := by
  apply UInt32.toBitVec_inj.1
  simp only [UInt32.toBitVec_xor, UInt32.toBitVec_and, UInt32.toBitVec_or]
  apply BitVec.eq_of_getLsbD_eq
  intro i hi
  simp only [BitVec.getLsbD_xor, BitVec.getLsbD_and, BitVec.getLsbD_or]
  cases a.toBitVec.getLsbD i <;> cases b.toBitVec.getLsbD i <;> cases c.toBitVec.getLsbD i <;> rfl
theorem or32_comm (a b : UInt32) : a ||| b = b ||| a := by
  apply UInt32.toBitVec_inj.1
  simp only [UInt32.toBitVec_or]
  exact BitVec.or_comm _ _
theorem un_not32 (x : UInt32) : Op.unary .xor (u32v x) = pure (u32v (4294967295 ^^^ x)) := (bin_xor32 0 4294967295 x)

end Go.Proofs.YtabkpoklihkifaaDoor

/- The contracts of hash.right, hash.press and the reference's turn and constants. -/
namespace Go.Proofs.YtabkpoklihkifaaDoor
open Go Go.RowKit
set_option linter.unusedVariables false
set_option linter.unusedSimpArgs false

theorem inv_rpf {w : World} {S : Nat → Prop} {ρ : Nat → Pl} {H : Nat → Sh} {k j s n : Nat} {f : Nat → Nat → D} {v : Value} {F : List Nat} (h : RV w S ρ H (.rpf k j s n f) v F) :
    ∃ (b base : Nat) (us : Nat → Nat → Value), v = .pointer (some ⟨b, base + (k * s + j), none⟩) ∧ S b ∧ (∀ i j, i < n → j < s → w.cell? ⟨b, base + (i * s + j), none⟩ = some (us i j)) ∧ ∀ i j, i < n → j < s → RV w S ρ H (f i j) (us i j) [] := by
  cases h with
  | rpf _ _ _ _ _ b base us hb hp hc hr => exact ⟨b, base, us, rfl, hb, hc, hr⟩
theorem inv_aggF {w : World} {S : Nat → Prop} {ρ : Nat → Pl} {H : Nat → Sh} {cs : List D} {v : Value} {F : List Nat} (h : RV w S ρ H (.agg cs) v F) : ∃ vs : List Value, v = .agg vs.toArray ∧ vs.length = cs.length ∧ ∀ (i : Nat) (c : D) (u : Value), cs[i]? = some c → vs[i]? = some u → ∃ f, RV w S ρ H c u f := by
  cases h with
  | agg _ vs Fs F hv hf hF hr => exact ⟨vs, rfl, hv, fun i c u h1 h2 => ⟨_, hr i c u _ h1 h2 (List.getElem?_eq_getElem (by have := (List.getElem?_eq_some_iff.1 h1).1; omega))⟩⟩
theorem inv_h8 {w : World} {S : Nat → Prop} {ρ : Nat → Pl} {H : Nat → Sh} {h : H8} {v : Value} {F : List Nat} (hr : RV w S ρ H (.agg h.ds) v F) : v = h.val := by
  obtain ⟨vs, rfl, hl, hc⟩ := inv_aggF hr
  have e : vs = h.cells.toList := by
    apply List.ext_getElem?
    intro i
    by_cases hi : i < 8
    · have hv : i < vs.length := by rw [hl]; exact hi
      rw [List.getElem?_eq_getElem hv]
      have key : ∀ x : UInt32, h.ds[i]? = some (.u32 x) → vs[i] = u32v x := fun x hx => by
        obtain ⟨f, hf⟩ := hc i _ _ hx (List.getElem?_eq_getElem hv)
        exact inv_u32 hf
      rcases i with _ | _ | _ | _ | _ | _ | _ | _ | i
      · rw [key _ rfl]; rfl
      · rw [key _ rfl]; rfl
      · rw [key _ rfl]; rfl
      · rw [key _ rfl]; rfl
      · rw [key _ rfl]; rfl
      · rw [key _ rfl]; rfl
      · rw [key _ rfl]; rfl
      · rw [key _ rfl]; rfl
      · omega
    · rw [List.getElem?_eq_none (by rw [hl]; simp [H8.ds]; omega), List.getElem?_eq_none (by simp [H8.cells]; omega)]
  rw [e]
  rfl
theorem rv_h8 {w : World} {S : Nat → Prop} {ρ : Nat → Pl} {H : Nat → Sh} (h : H8) : RV w S ρ H (.agg h.ds) h.val [] := by
  have : h.val = .agg h.cells.toList.toArray := rfl
  rw [this]
  refine RV.agg0 rfl fun i c u h1 h2 => ?_
  have key : ∀ x : UInt32, h.ds[i]? = some (.u32 x) → h.cells.toList[i]? = some (u32v x) → RV w S ρ H c u [] := fun x e1 e2 => by
    rw [e1] at h1; rw [e2] at h2
    injection h1 with h1; injection h2 with h2
    subst h1; subst h2
    exact .u32 x
  rcases i with _ | _ | _ | _ | _ | _ | _ | _ | i
  · exact key _ rfl rfl
  · exact key _ rfl rfl
  · exact key _ rfl rfl
  · exact key _ rfl rfl
  · exact key _ rfl rfl
  · exact key _ rfl rfl
  · exact key _ rfl rfl
  · exact key _ rfl rfl
  · simp [H8.ds] at h1
/-- The table of rounds, as the elder walks want it. -/
theorem tb_rounds {w : World} {S : Nat → Prop} (hS : SOk w S) (hG : GlOk GS w S) : Tb w 1 kt := by
  obtain ⟨b, base, us, hv, hb, hc, hr⟩ := inv_rpf (hG 1 _ rfl)
  injection hv with hv
  injection hv with hv
  injection hv with e1 e2
  subst e1
  have hbase : base = 0 := by omega
  subst hbase
  refine ⟨hS.lt hb, fun i hi => ?_⟩
  have hi' : i < 64 := hi
  have h1 := hc i 0 hi' (by omega)
  have h2 := inv_u32 (hr i 0 hi' (by omega))
  rw [h2] at h1
  simpa [kat] using h1
theorem press_fc (h : H8) (b : List UInt8) (hb : 64 ≤ b.length) : FC Tryd.prog GS 29 [.agg h.ds, .rob b] (.agg (pressS h b).ds) none := by
  refine fc_calls rfl (fun w S vs hS hG hl hr => ?_)
  obtain ⟨v0, v1, rfl⟩ : ∃ v0 v1, vs = [v0, v1] := by
    rcases vs with _ | ⟨v0, _ | ⟨v1, _ | ⟨v2, r⟩⟩⟩ <;> simp at hl
    exact ⟨v0, v1, rfl⟩
  obtain rfl := inv_h8 (hr 0 _ v0 rfl rfl)
  have h1 := hr 1 _ v1 rfl rfl
  cases h1 with
  | rob _ A n cap hrd =>
    have hn := hrd.len
    refine (press_any h A n cap b w (hrd.rd fun b hb => hS.lt hb) (by omega) (tb_rounds hS hG)).mono ?_
    rintro e w' ⟨rfl, hbl⟩
    exact ⟨_, [], rfl, hbl, rv_h8 _, by simp, by simp⟩
theorem right_fc (x : UInt32) (k : Int) (h1 : 1 ≤ k) (h2 : k < 32) : FC Tryd.prog GS 30 [.u32 x, .int .i64 k] (.u32 (rotr x k.toNat)) none := by
  refine fc_calls rfl (fun w S vs hS hG hl hr => ?_)
  obtain ⟨v0, v1, rfl⟩ : ∃ v0 v1, vs = [v0, v1] := by
    rcases vs with _ | ⟨v0, _ | ⟨v1, _ | ⟨v2, r⟩⟩⟩ <;> simp at hl
    exact ⟨v0, v1, rfl⟩
  obtain rfl := inv_u32 (hr 0 _ v0 rfl rfl)
  obtain rfl := inv_int (hr 1 _ v1 rfl rfl)
  refine (right_int x k h1 h2 w).mono ?_
  rintro e w' ⟨rfl, rfl⟩
  exact ⟨_, [], rfl, Below.refl _ _, .u32 _, by simp, by simp⟩
end Go.Proofs.YtabkpoklihkifaaDoor

/- How a state goes on, in plain Lean; press at a place. -/
namespace Go.Proofs.YtabkpoklihkifaaDoor
open Go Go.RowKit
set_option linter.unusedVariables false
set_option linter.unusedSimpArgs false

theorem st_div (l p : List UInt8) : (l ++ p).length / 64 = l.length / 64 + (stW l ++ p).length / 64 := by
  rw [List.length_append, List.length_append, stW_length]
  omega
theorem st_stepH (l p : List UInt8) : stH (l ++ p) = abs8 (stH l) (stW l ++ p) ((stW l ++ p).length / 64) := by
  have e : abs8 start8 (l ++ p) (l.length / 64) = stH l := abs8_append _ _ _ _ (by omega)
  have e2 : (l ++ p).drop (64 * (l.length / 64)) = stW l ++ p := List.drop_append_of_le_length (by omega)
  unfold stH at *
  rw [st_div, abs8_add, e, e2]
theorem st_stepW (l p : List UInt8) : stW (l ++ p) = (stW l ++ p).drop (64 * ((stW l ++ p).length / 64)) := by
  have e2 : (l ++ p).drop (64 * (l.length / 64)) = stW l ++ p := List.drop_append_of_le_length (by omega)
  conv => lhs; unfold stW
  rw [st_div, Nat.mul_add, ← List.drop_drop, e2]
theorem stC_step (L p m : List UInt8) (hm : m = stW L ++ p) (j : Nat) (h1 : 64 * j ≤ m.length) (h2 : m.length - 64 * j < 64) :
    stC (L ++ p) = [.u32 (abs8 (stH L) m j).a, .u32 (abs8 (stH L) m j).b, .u32 (abs8 (stH L) m j).c, .u32 (abs8 (stH L) m j).d, .u32 (abs8 (stH L) m j).e, .u32 (abs8 (stH L) m j).f, .u32 (abs8 (stH L) m j).g, .u32 (abs8 (stH L) m j).k,
      .ownb ((m.drop (64 * j)).take (m.length - 64 * j)), .int .i64 ((L.length : Int) + (p.length : Int))] := by
  have hj : (stW L ++ p).length / 64 = j := by rw [← hm]; omega
  unfold stC
  rw [st_stepH, st_stepW, hj, ← hm, List.take_of_length_le (by rw [List.length_drop]; omega), List.length_append]
  simp
theorem pressS_take (h : H8) (b : List UInt8) : pressS h (b.take 64) = pressS h b := pressS_congr (fun j hj => gb_take b hj) h
theorem press_at (h : H8) (m : List UInt8) (j : Nat) (hj : 64 * j + 64 ≤ m.length) : FC Tryd.prog GS 29
    [.agg [.u32 (abs8 h m j).a, .u32 (abs8 h m j).b, .u32 (abs8 h m j).c, .u32 (abs8 h m j).d, .u32 (abs8 h m j).e, .u32 (abs8 h m j).f, .u32 (abs8 h m j).g, .u32 (abs8 h m j).k], .rob ((m.drop (64 * j)).take 64)]
    (.agg [.u32 (abs8 h m (j + 1)).a, .u32 (abs8 h m (j + 1)).b, .u32 (abs8 h m (j + 1)).c, .u32 (abs8 h m (j + 1)).d, .u32 (abs8 h m (j + 1)).e, .u32 (abs8 h m (j + 1)).f, .u32 (abs8 h m (j + 1)).g, .u32 (abs8 h m (j + 1)).k]) none := by
  have e : abs8 h m (j + 1) = pressS (abs8 h m j) ((m.drop (64 * j)).take 64) := by rw [pressS_take]; rfl
  rw [e]
  exact press_fc (abs8 h m j) ((m.drop (64 * j)).take 64) (by rw [List.length_take, List.length_drop]; omega)
/-- Parts, one behind the other. -/
theorem flat_succ (ps : List (List UInt8)) {k : Nat} (h : k < ps.length) : (ps.take (k + 1)).flatten = (ps.take k).flatten ++ ps.getD k [] := by
  rw [List.take_add_one, List.flatten_append, List.getElem?_eq_getElem h, List.getD_eq_getElem?_getD, List.getElem?_eq_getElem h]
  simp
theorem flat_le (ps : List (List UInt8)) (k : Nat) : (ps.take k).flatten.length ≤ ps.flatten.length := by
  conv => rhs; rw [← List.take_append_drop k ps, List.flatten_append, List.length_append]
  omega
/-- The padded rest, so many noughts so far. -/
def padE (l : List UInt8) (z : Nat) : List UInt8 := stW l ++ 128 :: List.replicate z 0
theorem padE_len (l : List UInt8) (z : Nat) : (padE l z).length = (stW l).length + 1 + z := by simp [padE]; omega
theorem padE_zero (l : List UInt8) : padE l 0 = stW l ++ [128] := rfl
theorem padE_succ (l : List UInt8) (z : Nat) : padE l (z + 1) = padE l z ++ [0] := by
  unfold padE
  rw [List.append_assoc, List.cons_append, List.replicate_succ']
theorem b8_shift (n k : Nat) : b8 ((n : Int) * 8 / 2 ^ k) = UInt8.ofNat (8 * n / 2 ^ k) := by
  unfold b8
  apply UInt8.toNat_inj.1
  have e : ((n : Int) * 8 / 2 ^ k) = ((8 * n / 2 ^ k : Nat) : Int) := by rw [Nat.mul_comm]; push_cast; rfl
  rw [e]
  generalize 8 * n / 2 ^ k = m
  simp
  omega
theorem len8_at (n i : Nat) (h : i < 8) : (len8 n).take (i + 1) = (len8 n).take i ++ [b8 ((n : Int) * 8 / 2 ^ min (8 * (7 - (i : Int))).toNat 64)] := by
  rw [b8_shift]
  rcases i with _ | _ | _ | _ | _ | _ | _ | _ | i
  · rfl
  · rfl
  · rfl
  · rfl
  · rfl
  · rfl
  · rfl
  · simp [len8]
  · omega
theorem len8_len (n : Nat) : (len8 n).length = 8 := rfl
def H8.at_ (h : H8) (i : Nat) : UInt32 := [h.a, h.b, h.c, h.d, h.e, h.f, h.g, h.k].getD i 0
theorem h8_get (h : H8) (i : Nat) (hi : i < 8) : [D.u32 h.a, .u32 h.b, .u32 h.c, .u32 h.d, .u32 h.e, .u32 h.f, .u32 h.g, .u32 h.k].getD i .bot = .u32 (h.at_ i) := by
  rcases i with _ | _ | _ | _ | _ | _ | _ | _ | i
  · rfl
  · rfl
  · rfl
  · rfl
  · rfl
  · rfl
  · rfl
  · rfl
  · omega
/-- The sum's bytes, those of so many words so far. -/
def outT (h : H8) (i : Nat) : List UInt8 := (out8 h).take (4 * i) ++ List.replicate (32 - 4 * i) 0
theorem outT_len (h : H8) (i : Nat) (hi : i ≤ 8) : (outT h i).length = 32 := by
  unfold outT
  rw [List.length_append, List.length_take, List.length_replicate, show (out8 h).length = 32 from rfl]
  omega
theorem outT_succ (h : H8) (i : Nat) (hi : i < 8) : ((((outT h i).set (4 * i) (shr32 (h.at_ i) 24).toUInt8).set (4 * i + 1) (shr32 (h.at_ i) 16).toUInt8).set (4 * i + 2) (shr32 (h.at_ i) 8).toUInt8).set (4 * i + 3) (h.at_ i).toUInt8 = outT h (i + 1) := by
  rcases i with _ | _ | _ | _ | _ | _ | _ | _ | i
  · rfl
  · rfl
  · rfl
  · rfl
  · rfl
  · rfl
  · rfl
  · rfl
  · omega
theorem outT_end (h : H8) : outT h 8 = out8 h := rfl
theorem padZ_lt (n : Nat) : padZ n < 64 := Nat.mod_lt _ (by decide)
end Go.Proofs.YtabkpoklihkifaaDoor
