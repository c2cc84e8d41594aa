/- What the claim leans on, text Zq: Grow, Md, Md1, Md2. No condition beyond what each lemma states. -/
import Derived.Test.YtocfhkmdkdjinaaDoorZd
import Derived.Test.YtocfhkmdkdjinaaDoorZe
import Derived.Shelf.RegionOpenPlain
import Derived.Lib.AppendZerosOnto
import Derived.Lib.SliceRun
import Derived.Lib.SlBuf
import Derived.Lib.MakeNoZero
import Derived.Lib.SlFresh
import Derived.Deep.LoopGhost
import Derived.Laws.Externs
import Derived.WalkKit
import Derived.Lib.Walk
import Derived.Test.YtocfhkmdkdjinaaDoorZt

/- The contracts of slices.Grow from nil, bits.RotateLeft32, bytes.Repeat of one byte 64 times. -/
namespace Go.Proofs.YtocfhkmdkdjinaaDoor
open Go Go.RowKit
set_option linter.unusedVariables false
set_option linter.unusedSimpArgs false

theorem grow_amt : ∀ n : Nat, n < 32 → bits .and .u64 (IntKind.u64.wrap (n : Int)) 31 = (n : Int) := by decide
theorem rot_fc (x : UInt32) (k : Int) (h1 : 1 ≤ k) (h2 : k < 32) : FC Tryd.prog GE 120 [.u32 x, .int .i64 k] (.u32 (rol32 x k.toNat)) none := by
  refine fc_calls rfl (fun w S vs hS hG hl hr => ?_)
  obtain ⟨v0, v1, rfl⟩ : ∃ v0 v1, vs = [v0, v1] := by
    rcases vs with _ | ⟨v0, _ | ⟨v1, _ | ⟨v2, r⟩⟩⟩ <;> simp at hl
    exact ⟨v0, v1, rfl⟩
  obtain rfl := inv_u32 (hr 0 _ v0 rfl rfl)
  obtain rfl := inv_int (hr 1 _ v1 rfl rfl)
  obtain ⟨n, rfl⟩ : ∃ n : Nat, k = n := ⟨k.toNat, by omega⟩
  refine (rot_any x n n (grow_amt n (by omega)) (by omega) w).mono ?_
  rintro e w' ⟨rfl, rfl⟩
  exact ⟨_, [], rfl, Below.refl _ _, .u32 _, by simp, by simp⟩

theorem growz (w : World) (n : Nat) (h0 : 0 < n) (hn : n ≤ 140737488355328) (ty : TypeId) : ∃ cur : Array Value, grownCap w n 0 5 ≤ cur.size ∧ n ≤ grownCap w n 0 5 ∧ grownCap w n 0 5 ≤ maxLen ∧
    (Builtin.append_ #[25, 3] ty #[.slice none 0 0, .int .i64 n]).run Tryd.prog w = .ok (.slice (some ⟨w.heap.size, 0, none⟩) n (grownCap w n 0 5)) (w.drew.alloc (.cells cur 5)) := by
  obtain ⟨i, hi, hz0, hz1, hz2⟩ := info_parts bt.info
  have h := Lib.run_append_grow_zeros w 25 3 ty 5 i (.int .u8 0) .i64 .i64 bt.sl Tryd.underlying3 hi hz0 none 0 0 [] (run_firstCells_none w.drew i.size 0 0 0) n h0 (by omega) (by omega) (by omega) (by rw [hz2]; omega) (growslice_fits (by omega) (by rw [hz2]; omega))
  rw [Nat.zero_add] at h
  have hge := grownCap_ge w n 0 5
  refine ⟨_, ?_, hge, grownCap_le_maxLen w n 0 5 (by unfold maxLen; omega), h⟩
  simp only [Array.size_append, size_zeroCells, Value.cells]
  simp
  omega
set_option maxRecDepth 100000 in
theorem grow_any (n : Nat) (hn : n ≤ 140737488355328) (w : World) : Calls Tryd.prog 103 #[.slice none 0 0, .int .i64 n] w fun e w' =>
    (e = .returned (.slice none 0 0) ∧ w' = w) ∨ ∃ cur cap, cap ≤ cur.size ∧ cap ≤ maxLen ∧ e = .returned (.slice (some ⟨w.heap.size, 0, none⟩) 0 cap) ∧ w' = w.drew.alloc (.cells cur 5) := by
  have h1 : ¬ ((n : Int) < 0) := by omega
  have h3 : IntKind.i64.wrap ((n : Int) - 0) = (n : Int) := by simp [IntKind.wrap_i64]; omega
  have h5 : IntKind.i64.wrap (n : Int) = (n : Int) := by simp [IntKind.wrap_i64]; omega
  by_cases h0 : 0 < n
  · have h4 : (0 : Int) < n := by omega
    obtain ⟨cur, k1, k2, k3, hr⟩ := growz w n h0 hn 25
    generalize grownCap w n 0 5 = cap at *
    have k4 : (0 : Int) ≤ (n : Int) := by omega
    go_enter Tryd.func103, Tryd.ntmps103
    go_wp2_with (at_builtin; refine Lib.wpList_append_run _ rfl _ _ _ _ rfl _ _ rfl rfl _ _ hr ?_)
    all_goals (go_ret; exact .inr ⟨cur, cap, k1, k3, rfl, rfl⟩)
  · obtain rfl : n = 0 := by omega
    go_enter Tryd.func103, Tryd.ntmps103
    go_wp2_with fail
    go_ret
    exact .inl ⟨rfl, rfl⟩
theorem grow_fc (n : Nat) (hn : n ≤ 140737488355328) : FC Tryd.prog GE 103 [.nilS, .int .i64 n] (.ownb []) none := by
  refine fc_calls rfl (fun w S vs hS hG hl hr => ?_)
  obtain ⟨v0, v1, rfl⟩ : ∃ v0 v1, vs = [v0, v1] := by
    rcases vs with _ | ⟨v0, _ | ⟨v1, _ | ⟨v2, r⟩⟩⟩ <;> simp at hl
    exact ⟨v0, v1, rfl⟩
  obtain rfl := inv_nilS (hr 0 _ v0 rfl rfl)
  obtain rfl := inv_int (hr 1 _ v1 rfl rfl)
  refine (grow_any n hn w).mono ?_
  rintro e w' (⟨rfl, rfl⟩ | ⟨cur, cap, k1, k3, rfl, rfl⟩)
  · exact ⟨_, [], rfl, Below.refl _ _, .ownb [] _ _ _ [] #[] 0 rfl ⟨Nat.le_refl _, by simp [maxLen], .inl ⟨rfl, rfl, rfl⟩⟩ (fun i hi => absurd hi (by omega)), by simp, by simp⟩
  · refine ⟨_, [w.heap.size], rfl, (Below.refl _ _).drew.alloc (Nat.le_refl _) _, .ownb [] _ _ _ [w.heap.size] cur 0 rfl ⟨Nat.zero_le _, k3, .inr ⟨_, _, (0, 0), rfl, rfl, heap_alloc_new w.drew _, Loose.zero _, by omega⟩⟩ (fun i hi => absurd hi (by omega)), by simp, fun b hb => ?_⟩
    obtain rfl : b = w.heap.size := by simpa using hb
    exact ⟨Nat.le_refl _, by simp⟩
end Go.Proofs.YtocfhkmdkdjinaaDoor

/- MD5 in plain Lean. -/
namespace Go.Proofs.YtocfhkmdkdjinaaDoor
open Go Go.RowKit
set_option linter.unusedVariables false
set_option linter.unusedSimpArgs false

structure H4 where
  (a b c d : UInt32)
def H4.ds (h : H4) : List D := [.u32 h.a, .u32 h.b, .u32 h.c, .u32 h.d]
def H4.at_ (h : H4) (i : Nat) : UInt32 := [h.a, h.b, h.c, h.d].getD i 0
/-- The tables. -/
def sinesL : List UInt32 := [
  0xd76aa478, 0xe8c7b756, 0x242070db, 0xc1bdceee, 0xf57c0faf, 0x4787c62a, 0xa8304613, 0xfd469501,
  0x698098d8, 0x8b44f7af, 0xffff5bb1, 0x895cd7be, 0x6b901122, 0xfd987193, 0xa679438e, 0x49b40821,
  0xf61e2562, 0xc040b340, 0x265e5a51, 0xe9b6c7aa, 0xd62f105d, 0x02441453, 0xd8a1e681, 0xe7d3fbc8,
  0x21e1cde6, 0xc33707d6, 0xf4d50d87, 0x455a14ed, 0xa9e3e905, 0xfcefa3f8, 0x676f02d9, 0x8d2a4c8a,
  0xfffa3942, 0x8771f681, 0x6d9d6122, 0xfde5380c, 0xa4beea44, 0x4bdecfa9, 0xf6bb4b60, 0xbebfbc70,
  0x289b7ec6, 0xeaa127fa, 0xd4ef3085, 0x04881d05, 0xd9d4d039, 0xe6db99e5, 0x1fa27cf8, 0xc4ac5665,
  0xf4292244, 0x432aff97, 0xab9423a7, 0xfc93a039, 0x655b59c3, 0x8f0ccc92, 0xffeff47d, 0x85845dd1,
  0x6fa87e4f, 0xfe2ce6e0, 0xa3014314, 0x4e0811a1, 0xf7537e82, 0xbd3af235, 0x2ad7d2bb, 0xeb86d391]
def sat (i : Nat) : UInt32 := sinesL.getD i 0
def turnsL : List Int := [7, 12, 17, 22, 5, 9, 14, 20, 4, 11, 16, 23, 6, 10, 15, 21]
def tat (i : Nat) : Nat := (turnsL.getD (4 * (i / 16) + i % 4) 0).toNat
/-- The word of four bytes at a place, the least first. -/
def lword (b : List UInt8) (j : Nat) : UInt32 := (gb b j).toUInt32 ||| shl32 (gb b (j + 1)).toUInt32 8 ||| shl32 (gb b (j + 2)).toUInt32 16 ||| shl32 (gb b (j + 3)).toUInt32 24
def mfn (i : Nat) (v : H4) : UInt32 :=
  if i < 16 then v.d ^^^ (v.b &&& (v.c ^^^ v.d)) else if i < 32 then v.c ^^^ (v.d &&& (v.b ^^^ v.c)) else if i < 48 then (v.b ^^^ v.c) ^^^ v.d else v.c ^^^ (v.b ||| (4294967295 ^^^ v.d))
def mgn (i : Nat) : Nat := (if i < 16 then i else if i < 32 then 5 * i + 1 else if i < 48 then 3 * i + 5 else 7 * i) % 16
def mstep (b : List UInt8) (i : Nat) (v : H4) : H4 :=
  ⟨v.d, v.b + rol32 (mfn i v + ((v.a + sat i) + lword b (4 * mgn i))) (tat i), v.b, v.c⟩
def st4 (h : H4) (b : List UInt8) : Nat → H4
  | 0 => h
  | i + 1 => mstep b i (st4 h b i)
def add4 (h v : H4) : H4 := ⟨h.a + v.a, h.b + v.b, h.c + v.c, h.d + v.d⟩
def press4 (h : H4) (b : List UInt8) : H4 := add4 h (st4 h b 64)
def abs4 (h : H4) (l : List UInt8) : Nat → H4
  | 0 => h
  | k + 1 => press4 (abs4 h l k) (l.drop (64 * k))
def start4 : H4 := ⟨0x67452301, 0xefcdab89, 0x98badcfe, 0x10325476⟩
def out4 (h : H4) : List UInt8 := [h.a.toUInt8, (shr32 h.a 8).toUInt8, (shr32 h.a 16).toUInt8, (shr32 h.a 24).toUInt8, h.b.toUInt8, (shr32 h.b 8).toUInt8, (shr32 h.b 16).toUInt8, (shr32 h.b 24).toUInt8,
  h.c.toUInt8, (shr32 h.c 8).toUInt8, (shr32 h.c 16).toUInt8, (shr32 h.c 24).toUInt8, h.d.toUInt8, (shr32 h.d 8).toUInt8, (shr32 h.d 16).toUInt8, (shr32 h.d 24).toUInt8]
/-- Eight bytes of a length in bits, the least first. -/
def low8 (n : Nat) : List UInt8 := [UInt8.ofNat (8 * n), UInt8.ofNat (8 * n / 2 ^ 8), UInt8.ofNat (8 * n / 2 ^ 16), UInt8.ofNat (8 * n / 2 ^ 24), UInt8.ofNat (8 * n / 2 ^ 32), UInt8.ofNat (8 * n / 2 ^ 40), UInt8.ofNat (8 * n / 2 ^ 48), UInt8.ofNat (8 * n / 2 ^ 56)]
def padM (l : List UInt8) : List UInt8 := l ++ 128 :: List.replicate (padZ l.length) 0 ++ low8 l.length
def md (l : List UInt8) : List UInt8 := out4 (abs4 start4 (padM l) ((padM l).length / 64))

theorem md_abc : gb (md [97, 98, 99]) 0 = 144 ∧ gb (md [97, 98, 99]) 1 = 1 ∧ gb (md [97, 98, 99]) 15 = 114 := by decide +kernel
theorem md_take (l : List UInt8) : (md l).take 16 = md l := rfl
theorem md_len (l : List UInt8) : (md l).length = 16 := rfl
theorem padR_padM (l : List UInt8) : padR l (padZ l.length) ++ low8 l.length = padM l := rfl
theorem md_pad (l E : List UInt8) (h : E = padM l) : md l = out4 (abs4 start4 E (E.length / 64)) := by subst h; rfl
theorem low8_len (n : Nat) : (low8 n).length = 8 := rfl
theorem low8_at (n i : Nat) (h : i < 8) : (low8 n).take (i + 1) = (low8 n).take i ++ [b8 ((n : Int) * 8 / 2 ^ min (8 * (i : Int)).toNat 64)] := by
  rw [b8_shift]
  rcases i with _ | _ | _ | _ | _ | _ | _ | _ | i
  · simp [low8]
  · rfl
  · rfl
  · rfl
  · rfl
  · rfl
  · rfl
  · rfl
  · omega
theorem st4_succ (h : H4) (b : List UInt8) (i : Nat) : st4 h b (i + 1) = ⟨(st4 h b i).d, (st4 h b i).b + rol32 (mfn i (st4 h b i) + (((st4 h b i).a + sat i) + lword b (4 * mgn i))) (tat i), (st4 h b i).b, (st4 h b i).c⟩ := rfl
theorem st4_zero (h : H4) (b : List UInt8) : st4 h b 0 = h := rfl
theorem abs4_zero (h : H4) (l : List UInt8) : abs4 h l 0 = h := rfl
theorem abs4_next (h : H4) (l : List UInt8) (j : Nat) : abs4 h l (j + 1) = add4 (abs4 h l j) (st4 (abs4 h l j) (l.drop (64 * j)) 64) := rfl
theorem abs4_step (h : H4) (m : List UInt8) (j : Nat) : abs4 h m (j + 1) = press4 (abs4 h m j) (m.drop (64 * j)) := rfl
theorem lword_congr {b b' : List UInt8} {j : Nat} (h : ∀ i, i < 64 → gb b i = gb b' i) (hj : j + 3 < 64) : lword b j = lword b' j := by
  unfold lword
  rw [h j (by omega), h (j + 1) (by omega), h (j + 2) (by omega), h (j + 3) (by omega)]
theorem mgn_lt (i : Nat) : mgn i < 16 := Nat.mod_lt _ (by decide)
theorem st4_congr {b b' : List UInt8} (h : ∀ i, i < 64 → gb b i = gb b' i) (v : H4) : ∀ k, st4 v b k = st4 v b' k
  | 0 => rfl
  | k + 1 => by
    show mstep b k (st4 v b k) = mstep b' k (st4 v b' k)
    rw [st4_congr h v k]
    unfold mstep
    rw [lword_congr h (by have := mgn_lt k; omega)]
theorem press4_take (h : H4) (b : List UInt8) : press4 h (b.take 64) = press4 h b := by
  unfold press4
  rw [st4_congr (fun j hj => gb_take b hj) h]
theorem lword_drop (b : List UInt8) (k : Nat) : (gb (b.drop k) 0).toUInt32 ||| shl32 (gb (b.drop k) 1).toUInt32 8 ||| shl32 (gb (b.drop k) 2).toUInt32 16 ||| shl32 (gb (b.drop k) 3).toUInt32 24 = lword b k := by
  unfold lword
  rw [gb_drop, gb_drop, gb_drop, gb_drop]
  simp only [Nat.add_zero]
theorem h4_get (h : H4) (i : Nat) (hi : i < 4) : [D.u32 h.a, .u32 h.b, .u32 h.c, .u32 h.d].getD i .bot = .u32 (h.at_ i) := by
  rcases i with _ | _ | _ | _ | i
  · rfl
  · rfl
  · rfl
  · rfl
  · omega
theorem wsG_h4 (h : H4) : [D.u32 h.a, .u32 h.b, .u32 h.c, .u32 h.d] = wsG 4 h.at_ := rfl
/-- The sum's bytes, so many so far. -/
def outB (h : H4) (i : Nat) : List UInt8 := (out4 h).take i ++ List.replicate (16 - i) 0
theorem outB_len (h : H4) (i : Nat) (hi : i ≤ 16) : (outB h i).length = 16 := by
  unfold outB
  rw [List.length_append, List.length_take, List.length_replicate, show (out4 h).length = 16 from rfl]
  omega
theorem shr32_0 (x : UInt32) : shr32 x 0 = x := by
  unfold shr32
  simp
theorem outB_succ (h : H4) (i : Nat) (hi : i < 16) : (outB h i).set i (shr32 (h.at_ (i / 4)) (8 * (i % 4))).toUInt8 = outB h (i + 1) := by
  rcases i with _ | _ | _ | _ | _ | _ | _ | _ | _ | _ | _ | _ | _ | _ | _ | _ | i
  case zero => show (outB h 0).set 0 (shr32 h.a 0).toUInt8 = _; rw [shr32_0]; rfl
  case succ.succ.succ.succ.zero => show (outB h 4).set 4 (shr32 h.b 0).toUInt8 = _; rw [shr32_0]; rfl
  case succ.succ.succ.succ.succ.succ.succ.succ.zero => show (outB h 8).set 8 (shr32 h.c 0).toUInt8 = _; rw [shr32_0]; rfl
  case succ.succ.succ.succ.succ.succ.succ.succ.succ.succ.succ.succ.zero => show (outB h 12).set 12 (shr32 h.d 0).toUInt8 = _; rw [shr32_0]; rfl
  all_goals first | rfl | omega
theorem outB_end (h : H4) : outB h 16 = out4 h := rfl
/-- The first words' bytes. -/
def outQ (h : H4) (i : Nat) : List UInt8 := (out4 h).take (4 * i)
theorem outQ_len (h : H4) (i : Nat) (hi : i ≤ 4) : (outQ h i).length = 4 * i := by
  unfold outQ
  rw [List.length_take, show (out4 h).length = 16 from rfl]
  omega
theorem outQ_zero (h : H4) : outQ h 0 = [] := rfl
theorem outQ_succ (h : H4) (i : Nat) (hi : i < 4) : outQ h (i + 1) = outQ h i ++ [(h.at_ i).toUInt8, (shr32 (h.at_ i) 8).toUInt8, (shr32 (h.at_ i) 16).toUInt8, (shr32 (h.at_ i) 24).toUInt8] := by
  rcases i with _ | _ | _ | _ | i
  · rfl
  · rfl
  · rfl
  · rfl
  · omega
theorem outQ_end (h : H4) : outQ h 4 = out4 h := rfl
/-! The reference's way. -/
theorem or_mux (b c d : UInt32) : (b &&& c) ||| ((4294967295 ^^^ b) &&& d) = d ^^^ (b &&& (c ^^^ d)) := by
  apply UInt32.toBitVec_inj.1
  simp only [UInt32.toBitVec_xor, UInt32.toBitVec_and, UInt32.toBitVec_or]
  apply BitVec.eq_of_getLsbD_eq
  intro i hi
  simp only [BitVec.getLsbD_xor, BitVec.getLsbD_and, BitVec.getLsbD_or]
  rw [show (4294967295 : UInt32).toBitVec = 4294967295#32 from rfl, ones32 hi]
  cases b.toBitVec.getLsbD i <;> cases c.toBitVec.getLsbD i <;> cases d.toBitVec.getLsbD i <;> rfl
theorem mstep_ref (b : List UInt8) (i : Nat) (v : H4) (f m x : UInt32) (hf : f = mfn i v) (hm : m = lword b (4 * mgn i)) (hx : x = v.a + f + sat i + m) : mstep b i v = ⟨v.d, v.b + rol32 x (tat i), v.b, v.c⟩ := by
  subst hf hm hx
  unfold mstep
  rw [show mfn i v + (v.a + sat i + lword b (4 * mgn i)) = v.a + mfn i v + sat i + lword b (4 * mgn i) by ac_rfl]
theorem mfn0 {i : Nat} (v : H4) (h : i < 16) : mfn i v = v.d ^^^ (v.b &&& (v.c ^^^ v.d)) := if_pos h
theorem mfn1 {i : Nat} (v : H4) (h : ¬ i < 16) (h' : i < 32) : mfn i v = v.c ^^^ (v.d &&& (v.b ^^^ v.c)) := by unfold mfn; rw [if_neg h, if_pos h']
theorem mfn2 {i : Nat} (v : H4) (h : ¬ i < 32) (h' : i < 48) : mfn i v = (v.b ^^^ v.c) ^^^ v.d := by unfold mfn; rw [if_neg (by omega), if_neg h, if_pos h']
theorem mfn3 {i : Nat} (v : H4) (h : ¬ i < 48) : mfn i v = v.c ^^^ (v.b ||| (4294967295 ^^^ v.d)) := by unfold mfn; rw [if_neg (by omega), if_neg (by omega), if_neg h]
theorem mgn0 {i : Nat} (h : i < 16) : mgn i = i % 16 := by unfold mgn; rw [if_pos h]
theorem mgn1 {i : Nat} (h : ¬ i < 16) (h' : i < 32) : mgn i = (5 * i + 1) % 16 := by unfold mgn; rw [if_neg h, if_pos h']
theorem mgn2 {i : Nat} (h : ¬ i < 32) (h' : i < 48) : mgn i = (3 * i + 5) % 16 := by unfold mgn; rw [if_neg (by omega), if_neg h, if_pos h']
theorem mgn3 {i : Nat} (h : ¬ i < 48) : mgn i = 7 * i % 16 := by unfold mgn; rw [if_neg (by omega), if_neg (by omega), if_neg h]
theorem turns_pos : ∀ i, i < 64 → 1 ≤ tat i ∧ tat i < 32 := by decide
theorem turns_at : ∀ i, i < 64 → turnsL.getD (4 * (i / 16) + i % 4) 0 = (tat i : Int) := by decide
/-- Words put together with others, so many. -/
def addX (h v : H4) (k : Nat) : Nat → UInt32 := fun i => if i < k then h.at_ i + v.at_ i else h.at_ i
theorem addX_0 (h v : H4) : addX h v 0 = h.at_ := by funext i; simp [addX]
theorem addX_ge {h v : H4} {k i : Nat} (hi : ¬ i < k) : addX h v k i = h.at_ i := if_neg hi
theorem addX_set (h v : H4) (k : Nat) : ∀ j, j < 4 → addX h v (k + 1) j = if j = k then h.at_ k + v.at_ k else addX h v k j := by
  intro j _
  unfold addX
  by_cases hj : j = k
  · subst hj; simp
  · rw [if_neg hj]
    by_cases h2 : j < k
    · rw [if_pos h2, if_pos (by omega)]
    · rw [if_neg h2, if_neg (by omega)]
theorem addX_end (h v : H4) : wsG 4 (addX h v 4) = wsG 4 (add4 h v).at_ := rfl
theorem turn_get (i : Nat) (h : i < 64) : [D.int .i64 7, .int .i64 12, .int .i64 17, .int .i64 22, .int .i64 5, .int .i64 9, .int .i64 14, .int .i64 20, .int .i64 4, .int .i64 11, .int .i64 16, .int .i64 23, .int .i64 6, .int .i64 10, .int .i64 15, .int .i64 21].getD (((i : Int) / 16).toNat * 4 + ((i : Int) % 4).toNat) .bot = .int .i64 (tat i : Int) := by
  rw [show ((i : Int) / 16).toNat * 4 + ((i : Int) % 4).toNat = 4 * (i / 16) + i % 4 by omega, ← turns_at i h]
  obtain ⟨k, hk⟩ : ∃ k, k = 4 * (i / 16) + i % 4 := ⟨_, rfl⟩
  rw [← hk]
  have hk' : k < turnsL.length := by show k < 16; omega
  show (turnsL.map (D.int .i64)).getD k .bot = _
  rw [List.getD_eq_getElem?_getD, List.getElem?_map, List.getElem?_eq_getElem hk', List.getD_eq_getElem?_getD, List.getElem?_eq_getElem hk']
  rfl
theorem sines_ws : sinesL.map D.u32 = wsG 64 sat := rfl
theorem mword_at (E : List UInt8) (j k : Nat) : (gb E (64 * j + k)).toUInt32 ||| shl32 (gb E (64 * j + k + 1)).toUInt32 8 ||| shl32 (gb E (64 * j + k + 2)).toUInt32 16 ||| shl32 (gb E (64 * j + k + 3)).toUInt32 24 = lword (E.drop (64 * j)) k := by
  unfold lword
  rw [gb_drop, gb_drop, gb_drop, gb_drop]
  simp only [Nat.add_assoc]
theorem st4_ref (h : H4) (b : List UInt8) (i : Nat) (V : H4) (hV : V = st4 h b i) (F : UInt32) (hF : F = V.a + mfn i V + sat i + lword b (4 * mgn i)) : st4 h b (i + 1) = ⟨V.d, V.b + rol32 F (tat i), V.b, V.c⟩ := by
  subst hV
  exact mstep_ref b i (st4 h b i) _ _ F rfl rfl hF
theorem mfn0r {i : Nat} (v : H4) (h : i < 16) : mfn i v = (v.b &&& v.c) ||| ((4294967295 ^^^ v.b) &&& v.d) := by rw [or_mux]; exact mfn0 v h
theorem mfn1r {i : Nat} (v : H4) (h : ¬ i < 16) (h' : i < 32) : mfn i v = (v.d &&& v.b) ||| ((4294967295 ^^^ v.d) &&& v.c) := by rw [or_mux]; exact mfn1 v h h'
theorem rol_eq (x : UInt32) (s : Nat) : rol32 x s = shl32 x s ||| shr32 x (32 - s) := rfl
/-! Tables and small facts of walks. -/
def GO (g : Nat) : Option D :=
  match g with
  | 1 => some (.rpf 0 0 64 1 (fun _ j => .u32 (sat j)))
  | 2 => some (.rpf 0 0 1 16 (fun i _ => .int .i64 (turnsL.getD i 0)))
  | _ => none
theorem gpO : ∀ g cs, GO g = some cs → cs.pf0 = true := by
  intro g cs h
  unfold GO at h
  split at h <;> first | (injection h with h; subst h; rfl) | cases h
theorem band15_0 : ∀ i : Nat, i < 64 → bits .and .i64 (i : Int) 15 = ((i % 16 : Nat) : Int) := by decide +kernel
theorem band15_1 : ∀ i : Nat, i < 64 → bits .and .i64 (5 * (i : Int) + 1) 15 = (((5 * i + 1) % 16 : Nat) : Int) := by decide +kernel
theorem band15_2 : ∀ i : Nat, i < 64 → bits .and .i64 (3 * (i : Int) + 5) 15 = (((3 * i + 5) % 16 : Nat) : Int) := by decide +kernel
theorem band15_3 : ∀ i : Nat, i < 64 → bits .and .i64 (7 * (i : Int)) 15 = ((7 * i % 16 : Nat) : Int) := by decide +kernel
theorem turn_ix : ∀ i : Nat, i < 64 → bits .or .i64 ((i : Int) / 16 * 4) (bits .and .i64 (i : Int) 3) = ((4 * (i / 16) + i % 4 : Nat) : Int) := by decide +kernel
end Go.Proofs.YtocfhkmdkdjinaaDoor

/- MD5: a block. Printed by wp.py. -/
namespace Go.Proofs.YtocfhkmdkdjinaaDoor
open Go Go.RowKit
set_option linter.unusedVariables false
set_option linter.unusedSimpArgs false
set_option maxRecDepth 100000
set_option maxHeartbeats 4000000
attribute [local irreducible] inR VC RG VCn sq inS lq nq jq Wk
attribute [local irreducible] st4 add4 mfn mgn sat tat lword rol32 shl32 shr32
attribute [local simp] wsG_nm wsG_len wsG_sc wsG_fr

open Uno
theorem mpress_fc (h : H4) (b : List UInt8) (hb : b.length = 64) : FC Tryd.prog GO 107 [.agg [.u32 h.a, .u32 h.b, .u32 h.c, .u32 h.d], .rob b] (.agg [.u32 (press4 h b).a, .u32 (press4 h b).b, .u32 (press4 h b).c, .u32 (press4 h b).d]) none := by
  simp only [press4, add4]
  refine fic_ 135 ti_eq gpO Tryd.func107 (fun C hE hm hP hrc hrn => ?_)
  refine A_ ?_
  refine vl (fun i : Nat => ⟨[(1, .rob b), (2, .ptr 2 1 0), (4, .ptr 4 1 0), (5, .u32 (st4 h b i).a), (6, .u32 (st4 h b i).b), (7, .u32 (st4 h b i).c), (8, .u32 (st4 h b i).d), (22, .agg (wsG 64 sat)), (23, .int .i64 i)], [(2, ⟨⟨1, 1, 4⟩, some (.cells [.u32 h.a, .u32 h.b, .u32 h.c, .u32 h.d])⟩), (4, ⟨⟨1, 1, 4⟩, some (.cells [.u32 0, .u32 0, .u32 0, .u32 0])⟩)], []⟩) (fun i => i ≤ 64) (fun i => 64 - i) 0 ?_ (Nat.zero_le _) (fun i hi => ?_)
  · rw [st4_zero]
    exact wk_ hrc
  · by_cases hlt : i < 64
    · have hsin : (wsG 64 sat).getD ((i : Int).toNat * 1) .bot = .u32 (sat i) := by rw [Int.toNat_natCast, Nat.mul_one]; exact wsG_get hlt
      obtain ⟨V, hV⟩ : ∃ V, V = st4 h b i := ⟨_, rfl⟩
      have hst : st4 h b (i + 1) = ⟨V.d, V.b + rol32 (mfn i V + ((V.a + sat i) + lword b (4 * mgn i))) (tat i), V.b, V.c⟩ := by rw [hV]; exact st4_succ h b i
      have hmg := mgn_lt i
      have htu := turns_pos i hlt
      have htx := turn_ix i hlt
      have htn : D.int .i64 (turnsL.getD (bits .or .i64 ((i : Int) / 16 * 4) (bits .and .i64 (i : Int) 3)).toNat 0) = .int .i64 (tat i : Int) := by rw [htx, Int.toNat_natCast, turns_at i hlt]
      rw [← hV]
      repeat' (first | refine A1_ ?_ | refine C_ hE (fun hc => ?_) (fun hc => ?_) <;> (try (exfalso; omega)))
      first | refine O_ ?_ | refine OD_ hm ?_
      refine G_ 1 hE ?_
      refine L_ hE ?_ (hd := by exact hsin) (hg := by simp only [hsin]; exact sg_)
      refine G_ 200 hE ?_
      first | refine rz ?_ | refine ZD_ ?_
      refine A_ ?_
      rcases (show i < 16 ∨ (¬ i < 16 ∧ i < 32) ∨ (¬ i < 32 ∧ i < 48) ∨ ¬ i < 48 by omega) with h0 | ⟨h0, h0'⟩ | ⟨h0, h0'⟩ | h0
      · have hg : bits .and .i64 (i : Int) 15 = (mgn i : Int) := by rw [band15_0 i hlt, mgn0 h0]
        have hf := mfn0 V h0
        repeat' (first | refine A1_ ?_ | refine C_ hE (fun hc => ?_) (fun hc => ?_) <;> (try (exfalso; omega)))
        rw [hg, ← hf, show (4 * (mgn i : Int)).toNat = 4 * mgn i by omega, lword_drop]
        generalize mfn i V + (V.a + sat i + lword b (4 * mgn i)) = F at hst ⊢
        first | refine O_ ?_ | refine OD_ hm ?_
        refine G_ 12 hE ?_
        refine L_ hE ?_ (hd := by exact htn)
        refine rc_ hE hP ((rot_fc F (tat i) (by omega) (by omega)).any) Tryd.func120 ?_
        refine G_ 200 hE ?_
        first | refine rz ?_ | refine ZD_ ?_
        refine A_ ?_
        refine lq_n (i + 1) ?_ (by omega) (by omega)
        rw [hst]
        exact wk_ hrc
      · have hg : bits .and .i64 (5 * (i : Int) + 1) 15 = (mgn i : Int) := by rw [band15_1 i hlt, mgn1 h0 h0']
        have hf := mfn1 V h0 h0'
        repeat' (first | refine A1_ ?_ | refine C_ hE (fun hc => ?_) (fun hc => ?_) <;> (try (exfalso; omega)))
        rw [hg, ← hf, show (4 * (mgn i : Int)).toNat = 4 * mgn i by omega, lword_drop]
        generalize mfn i V + (V.a + sat i + lword b (4 * mgn i)) = F at hst ⊢
        first | refine O_ ?_ | refine OD_ hm ?_
        refine G_ 12 hE ?_
        refine L_ hE ?_ (hd := by exact htn)
        refine rc_ hE hP ((rot_fc F (tat i) (by omega) (by omega)).any) Tryd.func120 ?_
        refine G_ 200 hE ?_
        first | refine rz ?_ | refine ZD_ ?_
        refine A_ ?_
        refine lq_n (i + 1) ?_ (by omega) (by omega)
        rw [hst]
        exact wk_ hrc
      · have hg : bits .and .i64 (3 * (i : Int) + 5) 15 = (mgn i : Int) := by rw [band15_2 i hlt, mgn2 h0 h0']
        have hf := mfn2 V h0 h0'
        repeat' (first | refine A1_ ?_ | refine C_ hE (fun hc => ?_) (fun hc => ?_) <;> (try (exfalso; omega)))
        rw [hg, ← hf, show (4 * (mgn i : Int)).toNat = 4 * mgn i by omega, lword_drop]
        generalize mfn i V + (V.a + sat i + lword b (4 * mgn i)) = F at hst ⊢
        first | refine O_ ?_ | refine OD_ hm ?_
        refine G_ 12 hE ?_
        refine L_ hE ?_ (hd := by exact htn)
        refine rc_ hE hP ((rot_fc F (tat i) (by omega) (by omega)).any) Tryd.func120 ?_
        refine G_ 200 hE ?_
        first | refine rz ?_ | refine ZD_ ?_
        refine A_ ?_
        refine lq_n (i + 1) ?_ (by omega) (by omega)
        rw [hst]
        exact wk_ hrc
      · have hg : bits .and .i64 (7 * (i : Int)) 15 = (mgn i : Int) := by rw [band15_3 i hlt, mgn3 h0]
        have hf := mfn3 V h0
        repeat' (first | refine A1_ ?_ | refine C_ hE (fun hc => ?_) (fun hc => ?_) <;> (try (exfalso; omega)))
        rw [hg, ← hf, show (4 * (mgn i : Int)).toNat = 4 * mgn i by omega, lword_drop]
        generalize mfn i V + (V.a + sat i + lword b (4 * mgn i)) = F at hst ⊢
        first | refine O_ ?_ | refine OD_ hm ?_
        refine G_ 12 hE ?_
        refine L_ hE ?_ (hd := by exact htn)
        refine rc_ hE hP ((rot_fc F (tat i) (by omega) (by omega)).any) Tryd.func120 ?_
        refine G_ 200 hE ?_
        first | refine rz ?_ | refine ZD_ ?_
        refine A_ ?_
        refine lq_n (i + 1) ?_ (by omega) (by omega)
        rw [hst]
        exact wk_ hrc
    · obtain rfl : i = 64 := by omega
      repeat' (first | refine A1_ ?_ | refine C_ hE (fun hc => ?_) (fun hc => ?_) <;> (try (exfalso; omega)))
      exact retc_
end Go.Proofs.YtocfhkmdkdjinaaDoor

/- slices.Concat; MD5 of parts. Printed by wp.py. -/
namespace Go.Proofs.YtocfhkmdkdjinaaDoor
open Go Go.RowKit
set_option linter.unusedVariables false
set_option linter.unusedSimpArgs false
set_option maxRecDepth 100000
set_option maxHeartbeats 4000000
attribute [local irreducible] inR VC RG VCn sq inS lq nq jq Wk
attribute [local irreducible] st4 add4 rol32 shl32 shr32 abs4 md low8
attribute [local simp] wsG_nm wsG_len wsG_sc wsG_fr

theorem mpress_at (h : H4) (m : List UInt8) (j : Nat) (hj : 64 * j + 64 ≤ m.length) : FC Tryd.prog GO 107
    [.agg [.u32 (abs4 h m j).a, .u32 (abs4 h m j).b, .u32 (abs4 h m j).c, .u32 (abs4 h m j).d], .rob ((m.drop (64 * j)).take 64)]
    (.agg [.u32 (abs4 h m (j + 1)).a, .u32 (abs4 h m (j + 1)).b, .u32 (abs4 h m (j + 1)).c, .u32 (abs4 h m (j + 1)).d]) none := by
  have e : abs4 h m (j + 1) = press4 (abs4 h m j) ((m.drop (64 * j)).take 64) := by rw [press4_take]; exact abs4_step h m j
  rw [e]
  exact mpress_fc (abs4 h m j) ((m.drop (64 * j)).take 64) (by rw [List.length_take, List.length_drop]; omega)

open Uno
theorem Concat_fc (ps : List (List UInt8)) (hn : ps.length ≤ 1000000) (hb : ps.flatten.length ≤ 100000000000) : FC Tryd.prog GE 70 [.rof 1 ps.length (fun i _ => .rob (ps.getD i []))] (.ownb ps.flatten) none := by
  refine fi_ 36 [2] ti_eq gpE Tryd.func70 (fun C hE hm hP hrc hrn => ?_)
  refine A_ ?_
  refine vl (fun k : Nat => ⟨[(0, .rof 1 ps.length (fun i _ => .rob (ps.getD i []))), (3, .int .i64 ((ps.take k).flatten.length : Int)), (9, .rof 1 ps.length (fun i _ => .rob (ps.getD i []))), (10, .int .i64 ps.length), (11, .int .i64 k)], [], []⟩) (fun k => k ≤ ps.length) (fun k => ps.length - k) 0 ?_ (Nat.zero_le _) (fun k hk => ?_)
  · exact wk_ hrc
  · have hf2 := flat_le ps (k + 1)
    by_cases hkl : k < ps.length
    · have hf := flat_succ ps hkl
      rw [hf, List.length_append] at hf2
      repeat' (first | refine A1_ ?_ | refine C_ hE (fun hc => ?_) (fun hc => ?_) <;> (try (exfalso; omega)))
      refine lq_n (k + 1) ?_ (by omega) (by omega)
      rw [hf, List.length_append]
      exact wk_ hrc
    · obtain rfl : k = ps.length := by omega
      rw [List.take_length]
      repeat' (first | refine A1_ ?_ | refine C_ hE (fun hc => ?_) (fun hc => ?_) <;> (try (exfalso; omega)))
      first | refine O_ ?_ | refine OD_ hm ?_
      refine G_ 200 hE ?_
      refine rc_ hE hP ((grow_fc ps.flatten.length (by omega)).any) Tryd.func103 ?_
      refine G_ 200 hE ?_
      first | refine rz ?_ | refine ZD_ ?_
      refine A_ ?_
      refine vl (fun k : Nat => ⟨[(6, .sl 24 (1 + k) 0 (ps.take k).flatten.length), (25, .rof 1 ps.length (fun i _ => .rob (ps.getD i []))), (26, .int .i64 ps.length), (27, .int .i64 k)], [(24, ⟨⟨1 + k, 1, (ps.take k).flatten.length⟩, some (.bytes (ps.take k).flatten)⟩)], []⟩) (fun k => k ≤ ps.length) (fun k => ps.length - k) 0 ?_ (Nat.zero_le _) (fun k hk => ?_)
      · exact wk_ hrc
      · have hf2 := flat_le ps (k + 1)
        by_cases hkl : k < ps.length
        · have hf := flat_succ ps hkl
          rw [hf, List.length_append] at hf2
          repeat' (first | refine A1_ ?_ | refine C_ hE (fun hc => ?_) (fun hc => ?_) <;> (try (exfalso; omega)))
          refine lq_n (k + 1) ?_ (by omega) (by omega)
          rw [hf, List.length_append]
          exact wk_ hrc
        · obtain rfl : k = ps.length := by omega
          rw [List.take_length]
          repeat' (first | refine A1_ ?_ | refine C_ hE (fun hc => ?_) (fun hc => ?_) <;> (try (exfalso; omega)))
          exact ret_

theorem oOf_fc (ps : List (List UInt8)) (hn : ps.length ≤ 1000000) (hb : ps.flatten.length ≤ 100000000000) : FC Tryd.prog GO 74 [.rof 1 ps.length (fun i _ => .rob (ps.getD i []))] (.aggb (md ps.flatten)) none := by
  refine fic_ 63 ti_eq gpO Tryd.func74 (fun C hE hm hP hrc hrn => ?_)
  refine A_ ?_
  first | refine O_ ?_ | refine OD_ hm ?_
  refine G_ 200 hE ?_
  refine rc_ hE hP ((Concat_fc ps hn hb).any) Tryd.func70 ?_
  refine G_ 200 hE ?_
  first | refine rz ?_ | refine ZD_ ?_
  obtain ⟨l, hl⟩ : ∃ l, l = ps.flatten := ⟨_, rfl⟩
  rw [← hl] at hb ⊢
  clear hl
  have hpz := padZ_lt l.length
  have hwr := wrap_inR .u64 (l.length : Int) ((inR_u64 _).2 ⟨by omega, by omega⟩)
  refine A_ ?_
  refine vl (fun z : Nat => ⟨[(2, .ptr 2 1 0), (3, .sl 10 (2 + z) 0 (padR l z).length), (4, .int .u64 ((l.length : Int) * 8))], [(2, ⟨⟨1, 1, 16⟩, some (.bytes (List.replicate 16 0))⟩), (10, ⟨⟨2 + z, 1, (padR l z).length⟩, some (.bytes (padR l z))⟩)], []⟩) (fun z => z ≤ padZ l.length) (fun z => padZ l.length - z) 0 ?_ (Nat.zero_le _) (fun z hz => ?_)
  · rw [padR_zero, List.length_append, hwr]
    exact wk_ hrc
  · have hel := padR_len l z
    repeat' (first | refine A1_ ?_ | refine C_ hE (fun hc => ?_) (fun hc => ?_) <;> (try (exfalso; omega)))
    · refine lq_n (z + 1) ?_ (by unfold padZ at *; omega) (by unfold padZ at *; omega)
      rw [padR_succ, List.length_append]
      exact wk_ hrc
    · have hze : z = padZ l.length := by unfold padZ at *; omega
      subst hze
      obtain ⟨e0, he0⟩ : ∃ e0, e0 = padR l (padZ l.length) := ⟨_, rfl⟩
      rw [← he0] at hel hc ⊢
      have h56 : e0.length % 64 = 56 := by omega
      clear hc
      refine vl (fun i : Nat => ⟨[(2, .ptr 2 1 0), (3, .sl 10 (2 + padZ l.length + i) 0 (e0 ++ (low8 l.length).take i).length), (4, .int .u64 ((l.length : Int) * 8)), (25, .int .i64 i)], [(2, ⟨⟨1, 1, 16⟩, some (.bytes (List.replicate 16 0))⟩), (10, ⟨⟨2 + padZ l.length + i, 1, (e0 ++ (low8 l.length).take i).length⟩, some (.bytes (e0 ++ (low8 l.length).take i))⟩)], []⟩) (fun i => i ≤ 8) (fun i => 8 - i) 0 ?_ (Nat.zero_le _) (fun i hi => ?_)
      · rw [List.take_zero, List.append_nil]
        exact wk_ hrc
      · have hei : (e0 ++ (low8 l.length).take i).length ≤ e0.length + 8 := by rw [List.length_append, List.length_take, low8_len]; omega
        obtain ⟨E, hE'⟩ : ∃ E, E = e0 ++ (low8 l.length).take i := ⟨_, rfl⟩
        rw [← hE'] at hei ⊢
        repeat' (first | refine A1_ ?_ | refine C_ hE (fun hc => ?_) (fun hc => ?_) <;> (try (exfalso; omega)))
        · refine lq_n (i + 1) ?_ (by omega) (by omega)
          rw [low8_at _ _ (show i < 8 by omega), ← List.append_assoc, ← hE', List.length_append]
          exact wk_ hrc
        · obtain rfl : i = 8 := by omega
          have hEl : E.length = e0.length + 8 := by rw [hE', List.length_append, List.length_take, low8_len]; rfl
          rw [List.take_of_length_le (show (low8 l.length).length ≤ 8 by rw [low8_len]; exact Nat.le_refl _), he0, padR_padM] at hE'
          have hE64 : E.length % 64 = 0 := by omega
          have hmd := md_pad l E hE'
          clear hE' h56 he0 hi hc
          repeat' (first | refine A1_ ?_ | refine C_ hE (fun hc => ?_) (fun hc => ?_) <;> (try (exfalso; omega)))
          refine vl (fun j : Nat => ⟨[(2, .ptr 2 1 0), (3, .sl 10 (2 + padZ l.length + 8) (64 * j) (E.length - 64 * j)), (6, .ptr 6 1 0)], [(2, ⟨⟨1, 1, 16⟩, some (.bytes (List.replicate 16 0))⟩), (10, ⟨⟨2 + padZ l.length + 8, 1, E.length⟩, some (.bytes E)⟩),
            (6, ⟨⟨1, 1, 4⟩, some (.cells [.u32 (abs4 start4 E j).a, .u32 (abs4 start4 E j).b, .u32 (abs4 start4 E j).c, .u32 (abs4 start4 E j).d])⟩)], []⟩) (fun j => 64 * j ≤ E.length) (fun j => E.length - 64 * j) 0 ?_ (Nat.zero_le _) (fun j hj => ?_)
          · rw [abs4_zero]
            exact wk_ hrc
          · repeat' (first | refine A1_ ?_ | refine C_ hE (fun hc => ?_) (fun hc => ?_) <;> (try (exfalso; omega)))
            · first | refine O_ ?_ | refine OD_ hm ?_
              refine G_ 200 hE ?_
              refine rc_ hE hP (mpress_at start4 E j (by omega)) Tryd.func107 ?_
              refine G_ 200 hE ?_
              first | refine rz ?_ | refine ZD_ ?_
              refine A_ ?_
              rw [show 64 * j + 64 = 64 * (j + 1) by omega, show E.length - 64 * j - 64 = E.length - 64 * (j + 1) by omega]
              refine lq_n (j + 1) ?_ (by omega) (by omega)
              exact wk_ hrc
            · have hj2 : j = E.length / 64 := by omega
              rw [← hj2] at hmd
              rw [hmd]
              generalize abs4 start4 E j = h at *
              refine A_ ?_
              refine vl (fun i : Nat => ⟨[(2, .ptr 2 1 0), (6, .ptr 6 1 0), (7, .ptr 7 1 0), (47, .int .i64 i)], [(2, ⟨⟨1, 1, 16⟩, some (.bytes (List.replicate 16 0))⟩), (6, ⟨⟨1, 1, 4⟩, some (.cells [.u32 h.a, .u32 h.b, .u32 h.c, .u32 h.d])⟩), (7, ⟨⟨1, 1, 16⟩, some (.bytes (outB h i))⟩)], []⟩) (fun i => i ≤ 16) (fun i => 16 - i) 0 ?_ (Nat.zero_le _) (fun i hi => ?_)
              · exact wk_ hrc
              · have hol := outB_len h i hi
                repeat' (first | refine A1_ ?_ | refine C_ hE (fun hc => ?_) (fun hc => ?_) <;> (try (exfalso; omega)))
                · have hg : [D.u32 h.a, .u32 h.b, .u32 h.c, .u32 h.d].getD ((i : Int) / 4).toNat .bot = .u32 (h.at_ (i / 4)) := by rw [show ((i : Int) / 4).toNat = i / 4 by omega]; exact h4_get h (i / 4) (by omega)
                  first | refine O_ ?_ | refine OD_ hm ?_
                  refine G_ 4 hE ?_
                  refine L_ hE ?_ (hd := by exact hg) (hg := by simp only [hg]; exact sg_)
                  refine G_ 200 hE ?_
                  first | refine rz ?_ | refine ZD_ ?_
                  refine A_ ?_
                  rw [show (8 * ((i : Int) % 4)).toNat = 8 * (i % 4) by omega, outB_succ h i (by omega)]
                  refine lq_n (i + 1) ?_ (by omega) (by omega)
                  exact wk_ hrc
                · obtain rfl : i = 16 := by omega
                  rw [outB_end] at hol ⊢
                  repeat' (first | refine A1_ ?_ | refine C_ hE (fun hc => ?_) (fun hc => ?_) <;> (try (exfalso; omega)))
                  exact retc_
end Go.Proofs.YtocfhkmdkdjinaaDoor
