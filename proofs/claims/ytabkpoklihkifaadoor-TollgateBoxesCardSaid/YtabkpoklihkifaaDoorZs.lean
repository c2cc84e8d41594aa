/- What the claim leans on, text Zs: Bk0, Bk1, Bk2, Bk3. No condition beyond what each lemma states. -/
import Derived.Test.YtabkpoklihkifaaDoorZd
import Derived.Test.YtabkpoklihkifaaDoorZt

/- Blocks of sixteen bytes, turned by a key, in plain Lean: what the functions of package block reckon. -/
namespace Go.Proofs.YtabkpoklihkifaaDoor
open Go Go.RowKit
set_option linter.unusedVariables false
set_option linter.unusedSimpArgs false
set_option maxRecDepth 100000
/-- Twice. -/
def dbl (a : UInt8) : UInt8 := if a &&& 128 = 0 then shl8 a 1 else shl8 a 1 ^^^ 27
theorem shr8_lt (n : UInt8) (h : n ≠ 0) : (shr8 n 1).toNat < n.toNat := by
  have h0 : n.toNat ≠ 0 := fun e => h (UInt8.toNat_inj.1 e)
  have h1 := UInt8.toNat_lt n
  unfold shr8
  rw [UInt8.toNat_ofNat', Nat.shiftRight_eq_div_pow]
  omega
/-- What the product comes to. -/
def tmF (a n p : UInt8) : UInt8 := if h : n = 0 then p else tmF (dbl a) (shr8 n 1) (if n &&& 1 = 1 then p ^^^ a else p)
termination_by n.toNat
decreasing_by exact shr8_lt n h
theorem tmF_0 (a p : UInt8) : tmF a 0 p = p := by unfold tmF; rw [dif_pos rfl]
theorem tmF_s {a n p : UInt8} (h : n ≠ 0) : tmF (dbl a) (shr8 n 1) (if n &&& 1 = 1 then p ^^^ a else p) = tmF a n p := by rw [tmF.eq_1 a n p, dif_neg h]
/-- The boxes' making, round by round. -/
def rdQ (q0 : UInt8) : UInt8 := ((q0 ^^^ shl8 q0 1) ^^^ shl8 (q0 ^^^ shl8 q0 1) 2) ^^^ shl8 ((q0 ^^^ shl8 q0 1) ^^^ shl8 (q0 ^^^ shl8 q0 1) 2) 4
def rdW (q : UInt8) : UInt8 := if q &&& 128 = 0 then q else q ^^^ 9
def rdX (q : UInt8) : UInt8 := q ^^^ (shl8 q 1 ||| shr8 q 7) ^^^ (shl8 q 2 ||| shr8 q 6) ^^^ (shl8 q 3 ||| shr8 q 5) ^^^ (shl8 q 4 ||| shr8 q 4) ^^^ 99
structure Bx where
  p : UInt8
  q : UInt8
  t : List UInt8
  b : List UInt8
def rdN (s : Bx) : Bx := ⟨s.p ^^^ dbl s.p, rdW (rdQ s.q), s.t.set (s.p ^^^ dbl s.p).toNat (rdX (rdW (rdQ s.q))), s.b.set (rdX (rdW (rdQ s.q))).toNat (s.p ^^^ dbl s.p)⟩
def rdS : Nat → Bx
  | 0 => ⟨1, 1, List.replicate 256 0, List.replicate 256 0⟩
  | k + 1 => rdN (rdS k)
theorem rdS_len (k : Nat) : (rdS k).t.length = 256 ∧ (rdS k).b.length = 256 := by
  induction k with
  | zero => exact ⟨rfl, rfl⟩
  | succ k ih => exact ⟨(List.length_set ..).trans ih.1, (List.length_set ..).trans ih.2⟩
def pw : Nat → UInt8
  | 0 => 1
  | k + 1 => pw k ^^^ dbl (pw k)
theorem rdS_p (k : Nat) : (rdS k).p = pw k := by
  induction k with
  | zero => rfl
  | succ k ih => show (rdS k).p ^^^ dbl (rdS k).p = _; rw [ih]; rfl
/-- All rounds at once, looked over. -/
def pwL : Nat → UInt8 → Bool
  | 0, x => x == 1
  | k + 1, x => (x ^^^ dbl x == 1) == (k == 0) && pwL k (x ^^^ dbl x)
theorem pwL_ok : pwL 255 1 = true := by decide +kernel
theorem pwL_at : ∀ (n i : Nat), pwL n (pw i) = true → ∀ k, k < n → ((pw (i + k + 1) = 1) ↔ k + 1 = n)
  | 0, i, _, k, hk => absurd hk (by omega)
  | n + 1, i, h, k, hk => by
    unfold pwL at h
    rw [Bool.and_eq_true] at h
    rcases k with _ | k
    · have h1 : ((pw i ^^^ dbl (pw i) == 1) : Bool) = (n == 0) := by simpa using h.1
      show (pw i ^^^ dbl (pw i) = 1) ↔ _
      constructor
      · intro e
        rw [e] at h1
        have : n = 0 := by simpa using h1.symm
        omega
      · intro e
        have : n = 0 := by omega
        subst this
        simpa using h1
    · have := pwL_at n (i + 1) h.2 k (by omega)
      rw [show i + (k + 1) + 1 = i + 1 + k + 1 by omega, this]
      omega
theorem pw_one {k : Nat} (h : k < 255) : pw (k + 1) = 1 ↔ k + 1 = 255 := by
  have := pwL_at 255 0 pwL_ok k h
  rwa [Nat.zero_add] at this
/-- The boxes. -/
def T0 : List UInt8 := (rdS 255).t.set 0 99
def B0 : List UInt8 := (rdS 255).b.set 99 0
theorem T0_len : T0.length = 256 := (List.length_set ..).trans (rdS_len 255).1
theorem B0_len : B0.length = 256 := (List.length_set ..).trans (rdS_len 255).2
/-- A key's cells. -/
def keyC (T B : List UInt8) (x : D) : List D := (T ++ B).map D.u8 ++ [x]
theorem keyC_len {T B : List UInt8} (x : D) (h1 : T.length = 256) (h2 : B.length = 256) : (keyC T B x).length = 513 := by simp [keyC, h1, h2]
theorem keyC_fr {T B : List UInt8} {x : D} (h : x.fr0 = true) : (keyC T B x).all D.fr0 = true := by
  unfold keyC
  rw [List.all_append, List.all_map]
  simp [h]
  exact ⟨fun _ _ => rfl, fun _ _ => rfl⟩
theorem keyC_sc {T B : List UInt8} {x : D} (h : x.sc = true) : (keyC T B x).all D.sc = true := by
  unfold keyC
  rw [List.all_append, u8_sc]
  simp [h]
theorem keyC_nm {T B : List UInt8} {x : D} : nmL (keyC T B x) = x.nm := by
  unfold keyC
  rw [nmL_append, nmL_map _ (fun _ => rfl)]
  simp [nmL]
theorem keyC_t {T B : List UInt8} {x : D} {i : Nat} {v : UInt8} (h : T.length = 256) (hi : i < 256) : (keyC T B x).set i (.u8 v) = keyC (T.set i v) B x := by
  unfold keyC
  rw [List.set_append_left _ _ (by simp; omega), ← List.map_set, List.set_append_left _ _ (by omega)]
theorem keyC_b {T B : List UInt8} {x : D} {i : Nat} {v : UInt8} (h : T.length = 256) (h2 : B.length = 256) (hi : i < 256) : (keyC T B x).set (256 + i) (.u8 v) = keyC T (B.set i v) x := by
  unfold keyC
  rw [List.set_append_left _ _ (by simp; omega), ← List.map_set, List.set_append_right _ _ (by omega), h]
  simp
theorem keyC_x {T B : List UInt8} {x y : D} (h : T.length = 256) (h2 : B.length = 256) : (keyC T B x).set 512 y = keyC T B y := by
  unfold keyC
  rw [List.set_append_right _ _ (by simp; omega)]
  simp [h, h2]
theorem keyC_gt {T B : List UInt8} {x : D} {i : Nat} (h : T.length = 256) (hi : i < 256) : (keyC T B x).getD i .bot = .u8 (gb T i) := by
  unfold keyC gb
  rw [List.getD_eq_getElem?_getD, List.getElem?_append_left (by simp; omega), List.getElem?_map, List.getElem?_append_left (by omega), List.getElem?_eq_getElem (by omega), List.getD_eq_getElem?_getD, List.getElem?_eq_getElem (by omega)]
  rfl
theorem keyC_gx {T B : List UInt8} {x : D} (h : T.length = 256) (h2 : B.length = 256) : (keyC T B x).getD 512 .bot = x := by
  unfold keyC
  rw [List.getD_eq_getElem?_getD, List.getElem?_append_right (by simp; omega)]
  simp [h, h2]
theorem keyC_g {T B : List UInt8} {x : D} (h : T.length = 256) (h2 : B.length = 256) : (keyC T B x)[512]? = some x := by
  unfold keyC
  rw [List.getElem?_append_right (by simp; omega)]
  simp [h, h2]
/-- An array that is filled step by step. -/
def fillA (f : Nat → UInt8) (l : List UInt8) (i : Nat) : List UInt8 := (List.range i).map f ++ l.drop i
theorem fillA_len (f : Nat → UInt8) (l : List UInt8) (i : Nat) (h : i ≤ l.length) : (fillA f l i).length = l.length := by simp [fillA]; omega
theorem fillA_0 (f : Nat → UInt8) (l : List UInt8) : fillA f l 0 = l := rfl
theorem fillA_s (f : Nat → UInt8) (l : List UInt8) (i : Nat) (h : i < l.length) {v : UInt8} (hv : v = f i) : (fillA f l i).set i v = fillA f l (i + 1) := by
  subst hv
  unfold fillA
  rw [List.set_append_right _ _ (by simp), List.length_map, List.length_range, Nat.sub_self, List.drop_eq_getElem_cons h, List.set_cons_zero, List.range_succ, List.map_append, List.append_assoc]
  rfl
theorem fillA_get (f : Nat → UInt8) (l : List UInt8) (i j : Nat) (h : i ≤ j) : gb (fillA f l i) j = gb l j := by
  unfold fillA gb
  rw [List.getD_eq_getElem?_getD, List.getElem?_append_right (by simpa using h), List.length_map, List.length_range, List.getElem?_drop, show i + (j - i) = j by omega, ← List.getD_eq_getElem?_getD]
theorem fillA_n (f : Nat → UInt8) (l : List UInt8) : fillA f l l.length = (List.range l.length).map f := by unfold fillA; rw [List.drop_length, List.append_nil]
theorem fillA_all {f : Nat → UInt8} {l : List UInt8} (h : l.length = 16) : fillA f l 16 = (List.range 16).map f := by rw [← h, fillA_n]
theorem st_all {l m : List UInt8} {n : Nat} (h : l.length = n) (h2 : m.length = n) : List.take 0 l ++ List.take n m ++ List.drop (min n m.length) l = m := by
  rw [List.take_zero, List.nil_append, List.take_of_length_le (by omega), h2, Nat.min_self, ← h, List.drop_length, List.append_nil]
theorem st16 {m : List UInt8} (h : m.length = 16) : List.take 16 m ++ List.drop (min 16 m.length) (List.replicate 16 0) = m := by
  have := st_all (l := List.replicate 16 0) (n := 16) rfl h
  rwa [List.take_zero, List.nil_append] at this
theorem gb_set {l : List UInt8} {i : Nat} {x : UInt8} (h : i < l.length) : gb (l.set i x) i = x := by
  unfold gb
  rw [List.getD_eq_getElem?_getD, List.getElem?_set_self h]
  rfl
theorem acc_step {l : List UInt8} {i : Nat} {x y : UInt8} (h : i < l.length) : (l.set i x).set i (gb (l.set i x) i ^^^ y) = l.set i (x ^^^ y) := by rw [gb_set h, List.set_set]
theorem gb_z16 (i : Nat) : gb (List.replicate 16 0) i = 0 := by
  unfold gb
  rw [List.getD_eq_getElem?_getD, List.getElem?_replicate]
  split <;> rfl
theorem set_self {l : List UInt8} {i : Nat} (h : i < l.length) : l.set i (gb l i) = l := by
  unfold gb
  rw [List.getD_eq_getElem?_getD, List.getElem?_eq_getElem h]
  exact List.set_getElem_self h
theorem fillA_z (f : Nat → UInt8) (i : Nat) (h : i < 16) : (fillA f (List.replicate 16 0) i).set i 0 = fillA f (List.replicate 16 0) i := by
  have e := fillA_get f (List.replicate 16 0) i i (Nat.le_refl i)
  rw [gb_z16] at e
  have := set_self (l := fillA f (List.replicate 16 0) i) (i := i) (by rw [fillA_len _ _ _ (by simpa using Nat.le_of_lt h)]; simpa using h)
  rwa [e] at this
theorem ap_drop {m l : List UInt8} (h : m.length = l.length) : m ++ List.drop m.length l = m := by rw [h, List.drop_length, List.append_nil]
/-- Two blocks put together. -/
def xorB (a b : List UInt8) : List UInt8 := (List.range 16).map fun i => gb a i ^^^ gb b i
theorem xorB_len (a b : List UInt8) : (xorB a b).length = 16 := by simp [xorB]
/-- Each byte by its box, from its row's place. -/
def subB (T b : List UInt8) : List UInt8 := (List.range 16).map fun i => gb T (gb b ((i + 4 * (i % 4)) % 16)).toNat
theorem subB_len (T b : List UInt8) : (subB T b).length = 16 := by simp [subB]
/-- The place of a byte of a column. -/
def mxI (i j : Nat) : Nat := (bits .or .i64 (bits .andNot .i64 i 3) (bits .and .i64 ((i : Int) + j) 3)).toNat
theorem mxI_ok : ∀ i : Nat, i < 16 → ∀ j : Nat, j < 4 → 0 ≤ bits .or .i64 (bits .andNot .i64 (i : Int) 3) (bits .and .i64 ((i : Int) + (j : Int)) 3) ∧ bits .or .i64 (bits .andNot .i64 (i : Int) 3) (bits .and .i64 ((i : Int) + (j : Int)) 3) < 16 := by decide +kernel
def mxF (b row : List UInt8) (i : Nat) : Nat → UInt8
  | 0 => 0
  | j + 1 => mxF b row i j ^^^ tmF (gb b (mxI i j)) (gb row j) 0
def mixB (b row : List UInt8) : List UInt8 := (List.range 16).map fun i => mxF b row i 4
theorem mixB_len (b row : List UInt8) : (mixB b row).length = 16 := by simp [mixB]
/-- The key of round r. -/
def krB (K : List UInt8) (r : Nat) : List UInt8 := (List.range 16).map fun j => gb K (16 * r + j)
theorem krB_len (K : List UInt8) (r : Nat) : (krB K r).length = 16 := by simp [krB]
theorem krB_0 (K : List UInt8) : List.map D.toU8 (List.map (fun i => D.u8 (gb K i)) (List.range 16)) = krB K 0 := rfl
theorem krB_at (K : List UInt8) (r : Nat) : List.map D.toU8 (List.map (fun i => D.u8 (gb K (16 * r + i))) (List.range 16)) = krB K r := rfl
def roundB (T : List UInt8) (r : Nat) (b : List UInt8) : List UInt8 := if r < 10 then mixB (subB T b) [2, 3, 1, 1] else subB T b
def sealI (T K b : List UInt8) : Nat → List UInt8
  | 0 => xorB b (krB K 0)
  | r + 1 => xorB (roundB T (r + 1) (sealI T K b r)) (krB K (r + 1))
theorem sealI_len (T K b : List UInt8) (r : Nat) : (sealI T K b r).length = 16 := by cases r <;> exact xorB_len _ _
def sealB (T K b : List UInt8) : List UInt8 := sealI T K b 10
theorem sealB_len (T K b : List UInt8) : (sealB T K b).length = 16 := sealI_len _ _ _ _
theorem gb_left {w x : List UInt8} {i : Nat} (h : i < w.length) : gb (w ++ x) i = gb w i := by
  unfold gb
  rw [List.getD_eq_getElem?_getD, List.getElem?_append_left h, ← List.getD_eq_getElem?_getD]
theorem gb_drop (w : List UInt8) (n i : Nat) : gb (w.drop n) i = gb w (n + i) := by
  unfold gb
  rw [List.getD_eq_getElem?_getD, List.getElem?_drop, ← List.getD_eq_getElem?_getD]
/-- A key, for readers. -/
def keyF (T B K : List UInt8) : Nat → Nat → D := fun _ j => if j < 256 then .u8 (gb T j) else if j < 512 then .u8 (gb B (j - 256)) else .rof 16 11 (fun i j => .u8 (gb K (16 * i + j)))
def keyD (T B K : List UInt8) : D := .rpf 0 0 513 1 (keyF T B K)
theorem keyF_t {T B K : List UInt8} {k i : Nat} (h : i < 256) : keyF T B K k i = .u8 (gb T i) := if_pos h
theorem keyF_x {T B K : List UInt8} {k : Nat} : keyF T B K k 512 = .rof 16 11 (fun i j => .u8 (gb K (16 * i + j))) := rfl
theorem keyC_at {T B : List UInt8} {x : D} (h : T.length = 256) (h2 : B.length = 256) {j : Nat} (hj : j < 513) : (keyC T B x)[j]? = some (if j < 256 then .u8 (gb T j) else if j < 512 then .u8 (gb B (j - 256)) else x) := by
  by_cases h1 : j < 256
  · rw [if_pos h1]
    unfold keyC gb
    rw [List.getElem?_append_left (by simp; omega), List.getElem?_map, List.getElem?_append_left (by omega), List.getElem?_eq_getElem (by omega), List.getD_eq_getElem?_getD, List.getElem?_eq_getElem (by omega)]
    rfl
  · rw [if_neg h1]
    by_cases h3 : j < 512
    · rw [if_pos h3]
      unfold keyC gb
      rw [List.getElem?_append_left (by simp; omega), List.getElem?_map, List.getElem?_append_right (by omega), h, List.getElem?_eq_getElem (by omega), List.getD_eq_getElem?_getD, List.getElem?_eq_getElem (by omega)]
      rfl
    · obtain rfl : j = 512 := by omega
      rw [if_neg h3]
      exact keyC_g h h2
theorem key_cnv {T B K : List UInt8} (h : T.length = 256) (h2 : B.length = 256) (hK : K.length = 176) : Cnv (.rop 0 (keyC T B (.ros 16 11 (K.map D.u8)))) (.rpf 0 0 513 1 (keyF T B K)) := by
  intro w S v F hr
  cases hr with
  | rop _ _ b base us hb hc hr =>
    have := RV.rpf (w := w) (S := S) (ρ := ρ0) (H := H0) 0 0 513 1 (keyF T B K) b base (fun i j => us (i * 513 + j)) hb (fun i j hi hj => by
      unfold keyF
      split
      · rfl
      · split <;> rfl) (fun i j hi hj => by
      obtain rfl : i = 0 := by omega
      rw [Nat.zero_mul, Nat.zero_add]
      exact hc j _ (keyC_at h h2 hj)) (fun i j hi hj => by
      obtain rfl : i = 0 := by omega
      rw [Nat.zero_mul, Nat.zero_add]
      have := hr j _ (keyC_at h h2 hj)
      unfold keyF
      split
      · rename_i h1
        rw [if_pos h1] at this
        exact this
      · rename_i h1
        rw [if_neg h1] at this
        split
        · rename_i h3
          rw [if_pos h3] at this
          exact this
        · rename_i h3
          rw [if_neg h3] at this
          refine ros_rof (f := fun i j => .u8 (gb K (16 * i + j))) (fun i j hi hj => ⟨?_, rfl⟩) _ _ _ _ this
          rw [List.getElem?_map, List.getElem?_eq_getElem (by omega)]
          show some (D.u8 _) = some (D.u8 _)
          unfold gb
          rw [List.getD_eq_getElem?_getD, List.getElem?_eq_getElem (by omega)]
          simp only [Nat.mul_comm i 16]
          rfl)
    exact this
theorem u8_sc_cut (l : List UInt8) (a n : Nat) : (List.take n (List.drop a (l.map D.u8))).all D.sc = true := by
  rw [← List.map_drop, ← List.map_take]
  exact u8_sc _
theorem u8_pf1 (l : List UInt8) : (l.map D.u8).all D.pf1 = true := by
  rw [List.all_map]
  exact List.all_eq_true.2 fun _ _ => rfl
/-- What is given up: a key and its rounds' keys. -/
theorem mat_key {s : St} {T B K : List UInt8} {o x g g2 : Nat} (hT : T.length = 256) (hB : B.length = 256) (hK : K.length = 176) (ho : (s.ob o).ct = some (.cells (keyC T B (.sl x g2 0 11)))) (hg : g = (s.sh o).gen) (hx : (s.ob x).ct = some (.cells (K.map D.u8))) (hg2 : g2 = (s.sh x).gen) (he : (s.sh x).esz = 16) :
    Mat s (.ptr o g 0) (.rpf 0 0 513 1 (keyF T B K)) [] [o, x] := by
  have e : List.take (11 * 16) (List.drop 0 (K.map D.u8)) = K.map D.u8 := by rw [List.drop_zero, List.take_of_length_le (by simp; omega)]
  refine .cnv _ (.rop 0 (keyC T B (.ros 16 11 (K.map D.u8)))) _ _ _ (.ptr_r o g _ _ [x] ho hg (keyC_sc rfl) (by rw [keyC_len _ hT hB]; decide) ?_) (key_cnv hT hB hK)
  unfold keyC
  refine .tapp _ _ _ _ [] [] [] [x] (.tall _ (u8_pf1 _)) (.tcons _ _ _ _ [] [] [x] [] (.sl_rs x g2 0 11 16 (K.map D.u8) (K.map D.u8) [] hx hg2 he (by decide) (u8_sc_cut _ _ _) ?_) .tnil)
  rw [e]
  exact .tall _ (u8_pf1 _)
/-- The keys of all rounds: the next four bytes. -/
def kxX (T : List UInt8) (i : Nat) (c : UInt8) (x : List UInt8) : List UInt8 := if i % 4 = 0 then [gb T (gb x 1).toNat ^^^ c, gb T (gb x 2).toNat, gb T (gb x 3).toNat, gb T (gb x 0).toNat] else x
def kxL (w x : List UInt8) (n : Nat) : List UInt8 := (List.range n).map fun j => gb w (w.length - 16 + j) ^^^ gb x j
theorem kxL_s (w x : List UInt8) (n : Nat) : kxL w x n ++ [gb w (w.length - 16 + n) ^^^ gb x n] = kxL w x (n + 1) := by
  unfold kxL
  rw [List.range_succ, List.map_append]
  rfl
theorem kxX_len {T : List UInt8} {i : Nat} {c : UInt8} {x : List UInt8} (h : x.length = 4) : (kxX T i c x).length = 4 := by
  unfold kxX
  split
  · rfl
  · exact h
structure Kx where
  w : List UInt8
  c : UInt8
def kxN (T : List UInt8) (i : Nat) (s : Kx) : Kx := ⟨s.w ++ kxL s.w (kxX T i s.c (s.w.drop (s.w.length - 4))) 4, if i % 4 = 0 then dbl s.c else s.c⟩
def kxS (T key : List UInt8) : Nat → Kx
  | 0 => ⟨key, 1⟩
  | k + 1 => kxN T (k + 4) (kxS T key k)
theorem kxL_len (w x : List UInt8) (n : Nat) : (kxL w x n).length = n := by simp [kxL]
theorem kxS_len {T key : List UInt8} (h : key.length = 16) (k : Nat) : (kxS T key k).w.length = 16 + 4 * k := by
  induction k with
  | zero => exact h
  | succ k ih =>
    show (_ ++ kxL _ _ 4).length = _
    rw [List.length_append, kxL_len, ih]
    omega
def kxK (T key : List UInt8) : List UInt8 := (kxS T key 40).w
theorem kxK_len {T key : List UInt8} (h : key.length = 16) : (kxK T key).length = 176 := kxS_len h 40
end Go.Proofs.YtabkpoklihkifaaDoor

/- block: double, times, add. Printed by wp.py. -/
namespace Go.Proofs.YtabkpoklihkifaaDoor
open Go Go.RowKit
set_option linter.unusedVariables false
set_option linter.unusedSimpArgs false
set_option maxRecDepth 100000
set_option maxHeartbeats 4000000
attribute [local irreducible] inR VC RG VCn sq inS lq nq jq Wk

namespace Udbl_fc
theorem U : type_of% (@drop_rep UInt8) ∧ type_of% (@drop_rep D) ∧ type_of% (@List.take_zero UInt8) ∧ type_of% (@List.take_zero D) ∧ type_of% (@List.length_set D) := ⟨(@drop_rep UInt8), (@drop_rep D), (@List.take_zero UInt8), (@List.take_zero D), (@List.length_set D)⟩
end Udbl_fc
open Udbl_fc
theorem dbl_fc (a : UInt8) : FC Tryd.prog GE 11 [.u8 a] (.u8 (dbl a)) none := by
  refine fi_ 12 [2] ti_eq gpE Tryd.func11 (fun C hE hm hP hrc hrn => ?_)
  repeat' (first | refine A1_ ?_ | refine C_ hE (fun hc => ?_) (fun hc => ?_) <;> (try (exfalso; omega)))
  · exact ret_ (h := by (first | exact Mat.tnil | apply mat1 rfl | apply mat2 rfl rfl | apply mat3 rfl rfl rfl) <;> (repeat' (first | exact .tnil | exact mat_eq rfl rfl | apply mat_i | apply mat_bl | apply mat_u8 | apply mat_u32 | apply mat_st | apply mat_ab | apply mat_rbe | apply mat_nrb | apply mat_nob | exact mat_nos rfl rfl | exact mat_rf0 rfl | exact mat_trob | (apply mat_rf rfl rfl rfl) | refine mat_slf (e := 1) rfl rfl rfl rfl ?_ ?_ ?_ (by first | exact fr0_rob _ | exact fr0_str _ | exact fr0_str _) | (apply mat_sls rfl rfl rfl rfl rfl rfl) | exact mat_pf rfl rfl rfl rfl rfl | (apply mat_s0 rfl rfl rfl; (· first | rfl | (simp <;> fail) | (simp; omega) | omega)) | (apply mat_r0 rfl rfl rfl; (· first | rfl | (simp <;> fail) | (simp; omega) | omega)) | apply mat_sl rfl rfl rfl | apply mat_rb rfl rfl rfl | apply mat_p rfl rfl rfl rfl | apply mc)) <;> (first | rfl | assumption | (simp only [Z, U, Int.cast_ofNat_Int, UInt8.reduceToNat, UInt32.reduceToNat, Nat.reduceAdd, Nat.reduceMul, Nat.reduceSub, Nat.reduceLeDiff, Int.reduceToNat, Int.reducePow, Nat.reducePow] <;> fail) | (simp [dbl, *] <;> fail) | (simp_all [dbl] <;> fail) | (simp <;> fail) | omega | (simp [List.take_of_length_le] <;> fail)))
  · exact ret_ (h := by (first | exact Mat.tnil | apply mat1 rfl | apply mat2 rfl rfl | apply mat3 rfl rfl rfl) <;> (repeat' (first | exact .tnil | exact mat_eq rfl rfl | apply mat_i | apply mat_bl | apply mat_u8 | apply mat_u32 | apply mat_st | apply mat_ab | apply mat_rbe | apply mat_nrb | apply mat_nob | exact mat_nos rfl rfl | exact mat_rf0 rfl | exact mat_trob | (apply mat_rf rfl rfl rfl) | refine mat_slf (e := 1) rfl rfl rfl rfl ?_ ?_ ?_ (by first | exact fr0_rob _ | exact fr0_str _ | exact fr0_str _) | (apply mat_sls rfl rfl rfl rfl rfl rfl) | exact mat_pf rfl rfl rfl rfl rfl | (apply mat_s0 rfl rfl rfl; (· first | rfl | (simp <;> fail) | (simp; omega) | omega)) | (apply mat_r0 rfl rfl rfl; (· first | rfl | (simp <;> fail) | (simp; omega) | omega)) | apply mat_sl rfl rfl rfl | apply mat_rb rfl rfl rfl | apply mat_p rfl rfl rfl rfl | apply mc)) <;> (first | rfl | assumption | (simp only [Z, U, Int.cast_ofNat_Int, UInt8.reduceToNat, UInt32.reduceToNat, Nat.reduceAdd, Nat.reduceMul, Nat.reduceSub, Nat.reduceLeDiff, Int.reduceToNat, Int.reducePow, Nat.reducePow] <;> fail) | (simp [dbl, *] <;> fail) | (simp_all [dbl] <;> fail) | (simp <;> fail) | omega | (simp [List.take_of_length_le] <;> fail)))

theorem times_fc (a n : UInt8) : FC Tryd.prog GE 25 [.u8 a, .u8 n] (.u8 (tmF a n 0)) none := by
  refine fi_ 19 [4] ti_eq gpE Tryd.func25 (fun C hE hm hP hrc hrn => ?_)
  refine A_ ?_
  refine vl (fun s : UInt8 × UInt8 × UInt8 => ⟨[(0, .u8 s.1), (1, .u8 s.2.1), (5, .u8 s.2.2)], [], []⟩) (fun s => tmF s.1 s.2.1 s.2.2 = tmF a n 0) (fun s => s.2.1.toNat) (a, n, 0) ?_ rfl ?_
  · exact wk_ hrc
  rintro ⟨b, m, p⟩ hj
  simp only at hj ⊢
  by_cases hm0 : m = 0
  · subst hm0
    rw [tmF_0] at hj
    repeat' (first | refine A1_ ?_ | refine C_ hE (fun hc => ?_) (fun hc => ?_) <;> (try (exfalso; omega)))
    exact ret_
  · have hlt := shr8_lt m hm0
    have hs := tmF_s (a := b) (p := p) hm0
    have hpos : (0 : Int) < (m.toNat : Int) := by
      have : m.toNat ≠ 0 := fun e => hm0 (UInt8.toNat_inj.1 e)
      omega
    repeat' (first | refine A1_ ?_ | refine C_ hE (fun hc => ?_) (fun hc => ?_) <;> (try (exfalso; omega)))
    · first | refine O_ ?_ | refine OD_ hm ?_
      refine G_ 1 hE ?_
      refine rc_ hE hP (dbl_fc b) Tryd.func11 ?_
      refine G_ 200 hE ?_
      first | refine rz ?_ | refine ZD_ ?_
      refine A_ ?_
      refine lq_n (dbl b, shr8 m 1, p ^^^ b) ?_ (by rw [if_pos hc] at hs; exact hs.trans hj) hlt
      exact wk_ hrc
    · first | refine O_ ?_ | refine OD_ hm ?_
      refine G_ 1 hE ?_
      refine rc_ hE hP (dbl_fc b) Tryd.func11 ?_
      refine G_ 200 hE ?_
      first | refine rz ?_ | refine ZD_ ?_
      refine A_ ?_
      refine lq_n (dbl b, shr8 m 1, p) ?_ (by rw [if_neg hc] at hs; exact hs.trans hj) hlt
      exact wk_ hrc

theorem add_fc (a b : List UInt8) (ha : a.length = 16) (hb : b.length = 16) : FC Tryd.prog GE 13 [.aggb a, .aggb b] (.aggb (xorB a b)) none := by
  refine fic_ 20 ti_eq gpE Tryd.func13 (fun C hE hm hP hrc hrn => ?_)
  refine A_ ?_
  rw [show List.take 16 b = b from List.take_of_length_le (by omega), ha]
  refine vl (fun i : Nat => ⟨[(2, .ptr 2 1 0), (4, .ptr 4 1 0), (7, .aggb b), (8, .int .i64 i)], [(2, ⟨⟨1, 1, 16⟩, some (.bytes (fillA (fun i => gb a i ^^^ gb b i) a i))⟩), (4, ⟨⟨1, 1, 16⟩, some (.bytes (List.replicate 16 0))⟩)], []⟩) (fun i => i ≤ 16) (fun i => 16 - i) 0 ?_ (by decide) (fun i hi => ?_)
  · exact wk_ hrc
  have hfl := fillA_len (fun i => gb a i ^^^ gb b i) a i (by omega)
  by_cases h16 : i < 16
  · repeat' (first | refine A1_ ?_ | refine C_ hE (fun hc => ?_) (fun hc => ?_) <;> (try (exfalso; omega)))
    rw [fillA_get _ _ _ _ (Nat.le_refl i), fillA_s _ _ i (by omega) rfl]
    refine lq_n (i + 1) ?_ (by omega) (by omega)
    exact wk_ hrc
  · obtain rfl : i = 16 := by omega
    rw [show fillA (fun i => gb a i ^^^ gb b i) a 16 = xorB a b from fillA_all ha]
    have hx := xorB_len a b
    repeat' (first | refine A1_ ?_ | refine C_ hE (fun hc => ?_) (fun hc => ?_) <;> (try (exfalso; omega)))
    rw [st16 hx, List.take_of_length_le (by omega)]
    exact retc_

attribute [local simp] keyC_nm
theorem ready_fc  : FC Tryd.prog GE 10 [.ownp (keyC (List.replicate 256 0) (List.replicate 256 0) .nilS)] (.tup []) (some (keyC T0 B0 .nilS)) := by
  refine fo_ 74 [] ti_eq gpE Tryd.func10 (fun C hE hm hP hr9 hrn => ?_) (had := (by simp only [D.adL, D.ad1, List.all_cons, List.all_nil, Bool.and_true]; exact keyC_fr rfl))
  refine A_ ?_
  rw [keyC_len _ (by simp) (by simp)]
  refine vl (fun k : Nat => ⟨[(0, .ptr 900 1 0), (2, .u8 (rdS k).p), (3, .u8 (rdS k).q)], [(900, ⟨⟨1, 1, 513⟩, some (.cells (keyC (rdS k).t (rdS k).b .nilS))⟩)], []⟩) (fun k => k < 255) (fun k => 255 - k) 0 ?_ (by decide) (fun k hk => ?_)
  · exact wk9_ hr9
  obtain ⟨hT, hB⟩ := rdS_len k
  refine A_ ?_
  first | refine O_ ?_ | refine OD_ hm ?_
  refine G_ 2 hE ?_
  refine rc_ hE hP (dbl_fc (rdS k).p) Tryd.func11 ?_
  refine G_ 200 hE ?_
  first | refine rz ?_ | refine ZD_ ?_
  refine A_ ?_
  obtain ⟨P, hP1⟩ : ∃ P, P = (rdS k).p ^^^ dbl (rdS k).p := ⟨_, rfl⟩
  obtain ⟨q, hq⟩ : ∃ q, q = (rdS k).q := ⟨_, rfl⟩
  obtain ⟨Q, hQ⟩ : ∃ Q, Q = rdQ q := ⟨_, rfl⟩
  obtain ⟨W, hW⟩ : ∃ W, W = rdW Q := ⟨_, rfl⟩
  obtain ⟨X, hX⟩ : ∃ X, X = rdX W := ⟨_, rfl⟩
  have hPl := UInt8.toNat_lt P
  have hXl := UInt8.toNat_lt X
  have hN : rdS (k + 1) = ⟨P, W, (rdS k).t.set P.toNat X, (rdS k).b.set X.toNat P⟩ := by
    show rdN (rdS k) = _
    unfold rdN
    rw [← hq, ← hQ, ← hW, ← hX, ← hP1]
  have hone : P = 1 ↔ k + 1 = 255 := by
    have := rdS_p (k + 1)
    rw [hN] at this
    rw [show P = pw (k + 1) from this]
    exact pw_one hk
  rw [← hP1, ← hq, show q ^^^ shl8 q 1 ^^^ shl8 (q ^^^ shl8 q 1) 2 ^^^ shl8 (q ^^^ shl8 q 1 ^^^ shl8 (q ^^^ shl8 q 1) 2) 4 = Q from hQ.symm]
  generalize (rdS k).t = T at *
  generalize (rdS k).b = B at *
  clear hP1 hQ
  have hkl := keyC_len (T := T) (B := B) .nilS hT hB
  refine C_ hE (fun hc => ?_) (fun hc => ?_) <;> (try (exfalso; omega))
  · refine R_ hE ?_
    rw [show Q ^^^ 9 = W by rw [hW]; unfold rdW; rw [if_neg hc]]
    refine sq_n ?_
    refine vs ?_
    refine R_ hE ?_
    rw [show W ^^^ (shl8 W 1 ||| shr8 W 7) ^^^ (shl8 W 2 ||| shr8 W 6) ^^^ (shl8 W 3 ||| shr8 W 5) ^^^ (shl8 W 4 ||| shr8 W 4) ^^^ 99 = X from hX.symm]
    refine sq_n ?_
    refine vs ?_
    refine RD_ hE hm ?_
    rw [keyC_t hT (by omega), keyC_b (by rw [List.length_set]; exact hT) hB (by omega)]
    by_cases hPo : P = 1
    · have e := hone.1 hPo
      subst hPo
      obtain rfl : k = 254 := by omega
      have h1 : (rdS 255).t = T.set (1 : UInt8).toNat X := by rw [hN]
      have h2 : (rdS 255).b = B.set X.toNat 1 := by rw [hN]
      have hT2 := (rdS_len 255).1
      have hB2 := (rdS_len 255).2
      rw [← h1, ← h2]
      refine A_ ?_
      rw [keyC_t hT2 (by omega)]
      exact retr_
    · have e := mt hone.2 hPo
      refine A_ ?_
      rw [decide_eq_false hPo]
      refine A_ ?_
      refine lq_n (k + 1) ?_ (by omega) (by omega)
      rw [hN]
      exact wk9_ hr9
  · refine vc_skip ?_
    rw [show Q = W by rw [hW]; unfold rdW; rw [if_pos (by simpa using hc)]]
    refine sq_n ?_
    refine vs ?_
    refine R_ hE ?_
    rw [show W ^^^ (shl8 W 1 ||| shr8 W 7) ^^^ (shl8 W 2 ||| shr8 W 6) ^^^ (shl8 W 3 ||| shr8 W 5) ^^^ (shl8 W 4 ||| shr8 W 4) ^^^ 99 = X from hX.symm]
    refine sq_n ?_
    refine vs ?_
    refine RD_ hE hm ?_
    rw [keyC_t hT (by omega), keyC_b (by rw [List.length_set]; exact hT) hB (by omega)]
    by_cases hPo : P = 1
    · have e := hone.1 hPo
      subst hPo
      obtain rfl : k = 254 := by omega
      have h1 : (rdS 255).t = T.set (1 : UInt8).toNat X := by rw [hN]
      have h2 : (rdS 255).b = B.set X.toNat 1 := by rw [hN]
      have hT2 := (rdS_len 255).1
      have hB2 := (rdS_len 255).2
      rw [← h1, ← h2]
      refine A_ ?_
      rw [keyC_t hT2 (by omega)]
      exact retr_
    · have e := mt hone.2 hPo
      refine A_ ?_
      rw [decide_eq_false hPo]
      refine A_ ?_
      refine lq_n (k + 1) ?_ (by omega) (by omega)
      rw [hN]
      exact wk9_ hr9
end Go.Proofs.YtabkpoklihkifaaDoor

/- block: mix. Printed by wp.py. -/
namespace Go.Proofs.YtabkpoklihkifaaDoor
open Go Go.RowKit
set_option linter.unusedVariables false
set_option linter.unusedSimpArgs false
set_option maxRecDepth 100000
set_option maxHeartbeats 4000000
attribute [local irreducible] inR VC RG VCn sq inS lq nq jq Wk

namespace Umix_fc
theorem U : type_of% (@drop_rep UInt8) ∧ type_of% (@drop_rep D) ∧ type_of% (@List.take_zero UInt8) ∧ type_of% (@List.take_zero D) ∧ type_of% (@List.length_set D) := ⟨(@drop_rep UInt8), (@drop_rep D), (@List.take_zero UInt8), (@List.take_zero D), (@List.length_set D)⟩
end Umix_fc
open Umix_fc
theorem mix_fc (b row : List UInt8) (hb : b.length = 16) (hr : row.length = 4) : FC Tryd.prog GE 14 [.aggb b, .aggb row] (.aggb (mixB b row)) none := by
  refine fic_ 38 ti_eq gpE Tryd.func14 (fun C hE hm hP hrc hrn => ?_)
  refine A_ ?_
  rw [hb]
  refine vl (fun i : Nat => ⟨[(2, .ptr 2 1 0), (3, .ptr 3 1 0), (4, .ptr 4 1 0), (5, .ptr 5 1 0), (10, .int .i64 i)], [(2, ⟨⟨1, 1, 16⟩, some (.bytes b)⟩), (3, ⟨⟨1, 1, row.length⟩, some (.bytes row)⟩), (4, ⟨⟨1, 1, 16⟩, some (.bytes (List.replicate 16 0))⟩), (5, ⟨⟨1, 1, 16⟩, some (.bytes (fillA (fun i => mxF b row i 4) (List.replicate 16 0) i))⟩)], []⟩) (fun i => i ≤ 16) (fun i => 16 - i) 0 ?_ (by decide) (fun i hi => ?_)
  · exact wk_ hrc
  have hfl := fillA_len (fun i => mxF b row i 4) (List.replicate 16 0) i (by simpa using hi)
  rw [List.length_replicate] at hfl
  by_cases h16 : i < 16
  · repeat' (first | refine A1_ ?_ | refine C_ hE (fun hc => ?_) (fun hc => ?_) <;> (try (exfalso; omega)))
    rw [show List.take 4 row = row from List.take_of_length_le (by omega)]
    refine vl (fun j : Nat => ⟨[(2, .ptr 2 1 0), (3, .ptr 3 1 0), (4, .ptr 4 1 0), (5, .ptr 5 1 0), (6, .int .i64 i), (7, .int .i64 (bits .andNot .i64 i 3)), (10, .int .i64 i), (15, .aggb row), (16, .int .i64 j)], [(2, ⟨⟨1, 1, 16⟩, some (.bytes b)⟩), (3, ⟨⟨1, 1, row.length⟩, some (.bytes row)⟩), (4, ⟨⟨1, 1, 16⟩, some (.bytes (List.replicate 16 0))⟩), (5, ⟨⟨1, 1, 16⟩, some (.bytes ((fillA (fun i => mxF b row i 4) (List.replicate 16 0) i).set i (mxF b row i j)))⟩)], []⟩) (fun j => j ≤ 4) (fun j => 4 - j) 0 ?_ (by decide) (fun j hj => ?_)
    · rw [show (fillA (fun i => mxF b row i 4) (List.replicate 16 0) i).set i (mxF b row i 0) = fillA (fun i => mxF b row i 4) (List.replicate 16 0) i from fillA_z _ i h16]
      exact wk_ hrc
    by_cases h4 : j < 4
    · obtain ⟨hx1, hx2⟩ := mxI_ok i h16 j h4
      repeat' (first | refine A1_ ?_ | refine C_ hE (fun hc => ?_) (fun hc => ?_) <;> (try (exfalso; omega)))
      first | refine O_ ?_ | refine OD_ hm ?_
      refine G_ 12 hE ?_
      rw [show (bits .or .i64 (bits .andNot .i64 (i : Int) 3) (bits .and .i64 ((i : Int) + (j : Int)) 3)).toNat = mxI i j from rfl]
      refine rc_ hE hP (times_fc (gb b (mxI i j)) (gb row j)) Tryd.func25 ?_
      refine G_ 200 hE ?_
      first | refine rz ?_ | refine ZD_ ?_
      refine A_ ?_
      rw [acc_step (by omega), show mxF b row i j ^^^ tmF (gb b (mxI i j)) (gb row j) 0 = mxF b row i (j + 1) from rfl]
      refine lq_n (j + 1) ?_ (by omega) (by omega)
      exact wk_ hrc
    · obtain rfl : j = 4 := by omega
      rw [fillA_s _ _ i (by simpa using h16) rfl]
      repeat' (first | refine A1_ ?_ | refine C_ hE (fun hc => ?_) (fun hc => ?_) <;> (try (exfalso; omega)))
      refine lq_n (i + 1) ?_ (by omega) (by omega)
      exact wk_ hrc
  · obtain rfl : i = 16 := by omega
    rw [show fillA (fun i => mxF b row i 4) (List.replicate 16 0) 16 = mixB b row from fillA_all rfl]
    have hx := mixB_len b row
    repeat' (first | refine A1_ ?_ | refine C_ hE (fun hc => ?_) (fun hc => ?_) <;> (try (exfalso; omega)))
    rw [st16 hx, List.take_of_length_le (by omega)]
    exact retc_

theorem bseal_fc (T B K b : List UInt8) (hb : b.length = 16) : FC Tryd.prog GE 7 [keyD T B K, .aggb b] (.aggb (sealB T K b)) none := by
  unfold keyD
  refine fic_ 67 ti_eq gpE Tryd.func7 (fun C hE hm hP hrc hrn => ?_)
  refine A_ ?_
  rw [show ((11 : Int) - 1) = 10 from rfl, hb]
  first | refine O_ ?_ | refine OD_ hm ?_
  refine G_ 7 hE ?_
  rw [krB_0, show List.take 16 b = b from List.take_of_length_le (by omega)]
  have hx := xorB_len b (krB K 0)
  refine rc_ hE hP (add_fc b (krB K 0) hb (krB_len K 0)) Tryd.func13 ?_
  refine G_ 200 hE ?_
  first | refine rz ?_ | refine ZD_ ?_
  refine A_ ?_
  rw [ap_drop (hx.trans hb.symm), show xorB b (krB K 0) = sealI T K b 0 from rfl]
  clear hx
  refine vl (fun r : Nat => ⟨[(0, .rpf 0 0 513 1 (keyF T B K)), (3, .ptr 3 1 0), (4, .ptr 4 1 0), (5, .int .i64 10), (6, .int .i64 ((r + 1 : Nat) : Int))], [(3, ⟨⟨1, 1, 16⟩, some (.bytes (sealI T K b r))⟩), (4, ⟨⟨1, 1, 16⟩, some (.bytes (List.replicate 16 0))⟩)], []⟩) (fun r => r ≤ 10) (fun r => 10 - r) 0 ?_ (by decide) (fun r hr => ?_)
  · exact wk_ hrc
  have hl := sealI_len T K b r
  by_cases h10 : r < 10
  · obtain ⟨c, hc⟩ : ∃ c, c = sealI T K b r := ⟨_, rfl⟩
    have hN : sealI T K b (r + 1) = xorB (roundB T (r + 1) c) (krB K (r + 1)) := by rw [hc]; rfl
    rw [← hc] at hl ⊢
    clear hc
    repeat' (first | refine A1_ ?_ | refine C_ hE (fun hc => ?_) (fun hc => ?_) <;> (try (exfalso; omega)))
    refine vl (fun i : Nat => ⟨[(0, .rpf 0 0 513 1 (keyF T B K)), (3, .ptr 3 1 0), (4, .ptr 4 1 0), (5, .int .i64 10), (6, .int .i64 ((r + 1 : Nat) : Int)), (7, .ptr 7 1 0), (31, .int .i64 i)], [(3, ⟨⟨1, 1, 16⟩, some (.bytes c)⟩), (4, ⟨⟨1, 1, 16⟩, some (.bytes (List.replicate 16 0))⟩), (7, ⟨⟨1, 1, 16⟩, some (.bytes (fillA (fun i => gb T (gb c ((i + 4 * (i % 4)) % 16)).toNat) (List.replicate 16 0) i))⟩)], []⟩) (fun i => i ≤ 16) (fun i => 16 - i) 0 ?_ (by decide) (fun i hi => ?_)
    · exact wk_ hrc
    have hfl := fillA_len (fun i => gb T (gb c ((i + 4 * (i % 4)) % 16)).toNat) (List.replicate 16 0) i (by simpa using hi)
    rw [List.length_replicate] at hfl
    by_cases h16 : i < 16
    · have hix : (((i : Int) + 4 * ((i : Int) % 4)) % 16).toNat = (i + 4 * (i % 4)) % 16 := by omega
      repeat' (first | refine A1_ ?_ | refine C_ hE (fun hc => ?_) (fun hc => ?_) <;> (try (exfalso; omega)))
      first | refine O_ ?_ | refine OD_ hm ?_
      refine G_ 10 hE ?_
      rw [hix]
      have hbx := UInt8.toNat_lt (gb c ((i + 4 * (i % 4)) % 16))
      refine G_ 4 hE ?_
      refine L_ hE ?_ (hd := by exact keyF_t hbx)
      refine G_ 200 hE ?_
      first | refine rz ?_ | refine ZD_ ?_
      refine A_ ?_
      rw [fillA_s _ _ i (by simpa using h16) rfl]
      refine lq_n (i + 1) ?_ (by omega) (by omega)
      exact wk_ hrc
    · obtain rfl : i = 16 := by omega
      rw [show fillA (fun i => gb T (gb c ((i + 4 * (i % 4)) % 16)).toNat) (List.replicate 16 0) 16 = subB T c from fillA_all rfl]
      have hsl := subB_len T c
      by_cases h9 : r + 1 < 10
      · have hR : roundB T (r + 1) c = mixB (subB T c) [2, 3, 1, 1] := if_pos h9
        have hml := mixB_len (subB T c) [2, 3, 1, 1]
        have hM : (roundB T (r + 1) c).length = 16 := by rw [hR]; exact hml
        repeat' (first | refine A1_ ?_ | refine C_ hE (fun hc => ?_) (fun hc => ?_) <;> (try (exfalso; omega)))
        first | refine O_ ?_ | refine OD_ hm ?_
        refine G_ 2 hE ?_
        rw [show List.take 16 (subB T c) = subB T c from List.take_of_length_le (by omega)]
        refine rc_ hE hP (mix_fc (subB T c) [2, 3, 1, 1] hsl rfl) Tryd.func14 ?_
        refine G_ 200 hE ?_
        first | refine rz ?_ | refine ZD_ ?_
        refine A_ ?_
        rw [ap_drop (hml.trans hsl.symm), ← hR]
        generalize roundB T (r + 1) c = M at *
        first | refine O_ ?_ | refine OD_ hm ?_
        refine G_ 8 hE ?_
        rw [krB_at, show List.take 16 M = M from List.take_of_length_le (by omega)]
        have hx := xorB_len M (krB K (r + 1))
        refine rc_ hE hP (add_fc M (krB K (r + 1)) hM (krB_len _ _)) Tryd.func13 ?_
        refine G_ 200 hE ?_
        first | refine rz ?_ | refine ZD_ ?_
        refine A_ ?_
        rw [ap_drop (hx.trans hl.symm), ← hN]
        refine lq_n (r + 1) ?_ (by omega) (by omega)
        exact wk_ hrc
      · have hR : roundB T (r + 1) c = subB T c := if_neg h9
        have hM : (roundB T (r + 1) c).length = 16 := by rw [hR]; exact hsl
        rw [← hR]
        repeat' (first | refine A1_ ?_ | refine C_ hE (fun hc => ?_) (fun hc => ?_) <;> (try (exfalso; omega)))
        generalize roundB T (r + 1) c = M at *
        first | refine O_ ?_ | refine OD_ hm ?_
        refine G_ 8 hE ?_
        rw [krB_at, show List.take 16 M = M from List.take_of_length_le (by omega)]
        have hx := xorB_len M (krB K (r + 1))
        refine rc_ hE hP (add_fc M (krB K (r + 1)) hM (krB_len _ _)) Tryd.func13 ?_
        refine G_ 200 hE ?_
        first | refine rz ?_ | refine ZD_ ?_
        refine A_ ?_
        rw [ap_drop (hx.trans hl.symm), ← hN]
        refine lq_n (r + 1) ?_ (by omega) (by omega)
        exact wk_ hrc
  · obtain rfl : r = 10 := by omega
    rw [show sealI T K b 10 = sealB T K b from rfl] at hl ⊢
    repeat' (first | refine A1_ ?_ | refine C_ hE (fun hc => ?_) (fun hc => ?_) <;> (try (exfalso; omega)))
    rw [st16 hl, List.take_of_length_le (by omega)]
    exact retc_
end Go.Proofs.YtabkpoklihkifaaDoor

/- block: New. Printed by wp.py. -/
namespace Go.Proofs.YtabkpoklihkifaaDoor
open Go Go.RowKit
set_option linter.unusedVariables false
set_option linter.unusedSimpArgs false
set_option maxRecDepth 100000
set_option maxHeartbeats 4000000
attribute [local irreducible] inR VC RG VCn sq inS lq nq jq Wk
theorem nmL_u8m (l : List UInt8) : nmL (l.map D.u8) = [] := nmL_map _ (fun _ => rfl) l
theorem nmL_u8k (l : List UInt8) (n : Nat) : nmL (List.take n (l.map D.u8)) = [] := by rw [← List.map_take]; exact nmL_u8m _
attribute [local simp] keyC_nm nmL_u8m nmL_u8k

namespace Ubnew_fc
theorem U : type_of% (@drop_rep UInt8) ∧ type_of% (@drop_rep D) ∧ type_of% (@List.take_zero UInt8) ∧ type_of% (@List.take_zero D) ∧ type_of% (@List.length_set D) := ⟨(@drop_rep UInt8), (@drop_rep D), (@List.take_zero UInt8), (@List.take_zero D), (@List.length_set D)⟩
end Ubnew_fc
open Ubnew_fc
theorem bnew_fc (key : List UInt8) (hk : key.length = 16) : FC Tryd.prog GE 4 [.rob key] (.tup [keyD T0 B0 (kxK T0 key), .int .i64 0]) none := by
  refine fi_ 174 [2, 3] ti_eq gpE Tryd.func4 (fun C hE hm hP hrc hrn => ?_)
  unfold keyD
  refine vs ?_
  refine R_ hE ?_
  refine sq_n ?_
  repeat' (first | refine A1_ ?_ | refine C_ hE (fun hc => ?_) (fun hc => ?_) <;> (try (exfalso; omega)))
  · refine wv_ (s1 := ⟨[(0, .rob key), (4, .ptr 20 1 0)], [(20, ⟨⟨1, 1, 513⟩, some (.cells (keyC (List.replicate 256 0) (List.replicate 256 0) .nilS))⟩)], []⟩) (wk_ hrc) ?_
    first | refine O_ ?_ | refine OD_ hm ?_
    refine G_ 3 hE ?_
    refine rc_ (own := [20]) (fro := []) hE hP ready_fc Tryd.func10 ?_ (hm := by exact .tcons _ _ _ _ [20] [] [] [] (.ptr_f 20 1 _ rfl rfl (keyC_fr rfl) (by rw [keyC_len _ (by simp) (by simp)]; decide)) .tnil) (hout := by exact ⟨20, 1, [], rfl, rfl, rfl, rfl, keyC_fr rfl, by rw [keyC_len _ T0_len B0_len]; decide, by rw [keyC_len _ T0_len B0_len]; rfl⟩)
    refine G_ 200 hE ?_
    first | refine rz ?_ | refine ZD_ ?_
    refine A_ ?_
    rw [hk, show (((16 : Nat) : Int) / 4) = 4 from rfl, show (16 * (4 + 6 + 1) : Int) = 176 from rfl, show (some 30).getD 0 = 30 from rfl]
    have hT := T0_len
    have hB := B0_len
    generalize T0 = T at *
    generalize B0 = B at *
    refine vl (fun k : Nat => ⟨[(4, .ptr 20 1 0), (5, .int .i64 4), (6, .sl 30 (1 + 4 * k) 0 (16 + 4 * k)), (7, .u8 (kxS T key k).c), (8, .int .i64 176), (9, .int .i64 ((k + 4 : Nat) : Int))], [(20, ⟨⟨1, 1, 513⟩, some (.cells (keyC T B .nilS))⟩), (30, ⟨⟨1 + 4 * k, 1, 16 + 4 * k⟩, some (.bytes (kxS T key k).w)⟩)], []⟩) (fun k => k ≤ 40) (fun k => 40 - k) 0 ?_ (by decide) (fun k hk2 => ?_)
    · exact wk_ hrc
    have hwl := kxS_len (T := T) hk k
    by_cases h40 : k < 40
    · obtain ⟨w, hw⟩ : ∃ w, w = (kxS T key k).w := ⟨_, rfl⟩
      obtain ⟨c, hc'⟩ : ∃ c, c = (kxS T key k).c := ⟨_, rfl⟩
      have hN : kxS T key (k + 1) = ⟨w ++ kxL w (kxX T (k + 4) c (w.drop (w.length - 4))) 4, if (k + 4) % 4 = 0 then dbl c else c⟩ := by
        show kxN T (k + 4) (kxS T key k) = _
        unfold kxN
        rw [← hw, ← hc']
      rw [← hw] at hwl ⊢
      rw [← hc']
      clear hw hc'
      have e4 : ((16 + 4 * k : Nat) : Int) - 4 = ((12 + 4 * k : Nat) : Int) := by omega
      obtain ⟨x, hx⟩ : ∃ x, x = w.drop (w.length - 4) := ⟨_, rfl⟩
      have hxl : x.length = 4 := by rw [hx, List.length_drop]; omega
      have hXe : List.take 4 (List.drop (((16 + 4 * k : Nat) : Int) - 4).toNat w) ++ List.drop (min 4 (w.length - (((16 + 4 * k : Nat) : Int) - 4).toNat)) [0, 0, 0, 0] = x := by
        rw [show (((16 + 4 * k : Nat) : Int) - 4).toNat = w.length - 4 by omega, ← hx, List.take_of_length_le (by omega), show min 4 (w.length - (w.length - 4)) = 4 by omega]
        simp
      refine A_ ?_
      rw [decide_eq_true (show ((16 + 4 * k : Nat) : Int) < 176 by omega)]
      refine A_ ?_
      rw [hXe]
      have hb1 := UInt8.toNat_lt (gb x 1)
      have hb2 := UInt8.toNat_lt (gb x 2)
      have hb3 := UInt8.toNat_lt (gb x 3)
      have hb0 := UInt8.toNat_lt (gb x 0)
      have hkl := keyC_len (T := T) (B := B) .nilS hT hB
      refine wv_ (s1 := ⟨[(4, .ptr 20 1 0), (5, .int .i64 4), (6, .sl 30 (1 + 4 * k) 0 (16 + 4 * k)), (7, .u8 c), (8, .int .i64 176), (9, .int .i64 ((k + 4 : Nat) : Int)), (10, .ptr 10 1 0), (49, .bool (decide (((k + 4 : Nat) : Int) % 4 = 0)))], [(10, ⟨⟨1, 1, 4⟩, some (.bytes x)⟩), (20, ⟨⟨1, 1, 513⟩, some (.cells (keyC T B .nilS))⟩), (30, ⟨⟨1 + 4 * k, 1, 16 + 4 * k⟩, some (.bytes w)⟩)], []⟩) (wk_ hrc) ?_
      have e16 : ((16 + 4 * k : Nat) : Int) - 4 * 4 = ((4 * k : Nat) : Int) := by omega
      obtain ⟨X, hX⟩ : ∃ X, X = kxX T (k + 4) c x := ⟨_, rfl⟩
      have hXl : X.length = 4 := by rw [hX]; exact kxX_len hxl
      obtain ⟨c2, hc2⟩ : ∃ c2, c2 = if (k + 4) % 4 = 0 then dbl c else c := ⟨_, rfl⟩
      rw [← hx, ← hX, ← hc2] at hN
      by_cases hm4 : (k + 4) % 4 = 0
      · rw [decide_eq_true (show ((k + 4 : Nat) : Int) % 4 = 0 by omega)]
        refine A_ ?_
        first | refine O_ ?_ | refine OD_ hm ?_
        refine G_ 7 hE ?_
        refine L_ hE ?_ (hd := by exact keyC_gt hT hb1) (hg := by exact ⟨rfl, by rw [hkl]; omega, by rw [keyC_gt hT hb1]; rfl⟩)
        refine G_ 9 hE ?_
        refine L_ hE ?_ (hd := by exact keyC_gt hT hb2) (hg := by exact ⟨rfl, by rw [hkl]; omega, by rw [keyC_gt hT hb2]; rfl⟩)
        refine G_ 7 hE ?_
        refine L_ hE ?_ (hd := by exact keyC_gt hT hb3) (hg := by exact ⟨rfl, by rw [hkl]; omega, by rw [keyC_gt hT hb3]; rfl⟩)
        refine G_ 7 hE ?_
        refine L_ hE ?_ (hd := by exact keyC_gt hT hb0) (hg := by exact ⟨rfl, by rw [hkl]; omega, by rw [keyC_gt hT hb0]; rfl⟩)
        have hXc : [gb T (gb x 1).toNat ^^^ c, gb T (gb x 2).toNat, gb T (gb x 3).toNat, gb T (gb x 0).toNat] = X := by rw [hX]; unfold kxX; rw [if_pos hm4]
        refine L_ hE ?_ (hd := by exact congrArg D.aggb hXc)
        refine G_ 1 hE ?_
        rw [ap_drop (hXl.trans hxl.symm)]
        first | refine rz ?_ | refine ZD_ ?_
        refine A_ ?_
        first | refine O_ ?_ | refine OD_ hm ?_
        refine G_ 1 hE ?_
        refine rc_ hE hP (dbl_fc c) Tryd.func11 ?_
        refine G_ 200 hE ?_
        first | refine rz ?_ | refine ZD_ ?_
        rw [show dbl c = c2 by rw [hc2, if_pos hm4]]
        refine A_ ?_
        rw [show List.take 4 X = X from List.take_of_length_le (by omega), e16]
        refine vl (fun j : Nat => ⟨[(4, .ptr 20 1 0), (5, .int .i64 4), (6, .sl 30 (1 + 4 * k + j) 0 (16 + 4 * k + j)), (7, .u8 c2), (8, .int .i64 176), (9, .int .i64 ((k + 4 : Nat) : Int)), (11, .int .i64 ((4 * k : Nat) : Int)), (138, .aggb X), (139, .int .i64 j)], [(20, ⟨⟨1, 1, 513⟩, some (.cells (keyC T B .nilS))⟩), (30, ⟨⟨1 + 4 * k + j, 1, 16 + 4 * k + j⟩, some (.bytes (w ++ kxL w X j))⟩)], []⟩) (fun j => j ≤ 4) (fun j => 4 - j) 0 ?_ (by decide) (fun j hj => ?_)
        · rw [show w ++ kxL w X 0 = w from List.append_nil w]
          exact wk_ hrc
        have hll := kxL_len w X j
        by_cases hj4 : j < 4
        · have hij : (((4 * k : Nat) : Int) + (j : Int)).toNat = w.length - 16 + j := by omega
          repeat' (first | refine A1_ ?_ | refine C_ hE (fun hc => ?_) (fun hc => ?_) <;> (try (exfalso; omega)))
          rw [hij, gb_left (by omega), show List.take (16 + 4 * k + j) (w ++ kxL w X j) ++ List.take 1 [gb w (w.length - 16 + j) ^^^ gb X j] = w ++ kxL w X (j + 1) from by rw [List.take_of_length_le (by rw [List.length_append]; omega), List.append_assoc]; exact congrArg (w ++ ·) (kxL_s w X j), show min (16 + 4 * k + j) (w.length + (kxL w X j).length) + 1 = 16 + 4 * k + j + 1 by omega]
          refine lq_n (j + 1) ?_ (by omega) (by omega)
          exact wk_ hrc
        · obtain rfl : j = 4 := by omega
          repeat' (first | refine A1_ ?_ | refine C_ hE (fun hc => ?_) (fun hc => ?_) <;> (try (exfalso; omega)))
          refine lq_n (k + 1) ?_ (by omega) (by omega)
          rw [hN]
          exact wk_ hrc
      · rw [decide_eq_false (show ¬ ((k + 4 : Nat) : Int) % 4 = 0 by omega)]
        refine A_ ?_
        rw [show x = X by rw [hX]; unfold kxX; rw [if_neg hm4], show c = c2 by rw [hc2, if_neg hm4]]
        rw [show List.take 4 X = X from List.take_of_length_le (by omega), e16]
        refine vl (fun j : Nat => ⟨[(4, .ptr 20 1 0), (5, .int .i64 4), (6, .sl 30 (1 + 4 * k + j) 0 (16 + 4 * k + j)), (7, .u8 c2), (8, .int .i64 176), (9, .int .i64 ((k + 4 : Nat) : Int)), (11, .int .i64 ((4 * k : Nat) : Int)), (138, .aggb X), (139, .int .i64 j)], [(20, ⟨⟨1, 1, 513⟩, some (.cells (keyC T B .nilS))⟩), (30, ⟨⟨1 + 4 * k + j, 1, 16 + 4 * k + j⟩, some (.bytes (w ++ kxL w X j))⟩)], []⟩) (fun j => j ≤ 4) (fun j => 4 - j) 0 ?_ (by decide) (fun j hj => ?_)
        · rw [show w ++ kxL w X 0 = w from List.append_nil w]
          exact wk_ hrc
        have hll := kxL_len w X j
        by_cases hj4 : j < 4
        · have hij : (((4 * k : Nat) : Int) + (j : Int)).toNat = w.length - 16 + j := by omega
          repeat' (first | refine A1_ ?_ | refine C_ hE (fun hc => ?_) (fun hc => ?_) <;> (try (exfalso; omega)))
          rw [hij, gb_left (by omega), show List.take (16 + 4 * k + j) (w ++ kxL w X j) ++ List.take 1 [gb w (w.length - 16 + j) ^^^ gb X j] = w ++ kxL w X (j + 1) from by rw [List.take_of_length_le (by rw [List.length_append]; omega), List.append_assoc]; exact congrArg (w ++ ·) (kxL_s w X j), show min (16 + 4 * k + j) (w.length + (kxL w X j).length) + 1 = 16 + 4 * k + j + 1 by omega]
          refine lq_n (j + 1) ?_ (by omega) (by omega)
          exact wk_ hrc
        · obtain rfl : j = 4 := by omega
          repeat' (first | refine A1_ ?_ | refine C_ hE (fun hc => ?_) (fun hc => ?_) <;> (try (exfalso; omega)))
          refine lq_n (k + 1) ?_ (by omega) (by omega)
          rw [hN]
          exact wk_ hrc
    · obtain rfl : k = 40 := by omega
      rw [show (kxS T key 40).w = kxK T key from rfl, show 16 + 4 * 40 = 176 from rfl, show 1 + 4 * 40 = 161 from rfl] at *
      generalize kxK T key = K at *
      repeat' (first | refine A1_ ?_ | refine C_ hE (fun hc => ?_) (fun hc => ?_) <;> (try (exfalso; omega)))
      refine wv_ (knilcs 20 512 16 rfl (keyC_g hT hB) (keyC_x hT hB)) ?_
      refine wv_ (sos_ 20 512 170 0 (hi := by exact keyC_g hT hB) (hcs := by exact keyC_x hT hB)) ?_
      refine vl (fun r : Nat => ⟨[(4, .ptr 20 1 0), (6, .sl 30 161 (16 * r) (176 - 16 * r))], [(20, ⟨⟨1, 1, 513⟩, some (.cells (keyC T B (.sl 170 (1 + r) 0 r)))⟩), (170, ⟨⟨1 + r, 16, 16 * r⟩, some (.cells ((K.take (16 * r)).map D.u8))⟩), (30, ⟨⟨161, 1, 176⟩, some (.bytes K)⟩)], []⟩) (fun r => r ≤ 11) (fun r => 11 - r) 0 ?_ (by decide) (fun r hr => ?_)
      · exact wk_ hrc
      by_cases h11 : r < 11
      · repeat' (first | refine A1_ ?_ | refine C_ hE (fun hc => ?_) (fun hc => ?_) <;> (try (exfalso; omega)))
        have hkl : (keyC T B (.sl 170 (1 + r) 0 r)).length = 513 := keyC_len _ hT hB
        first | refine O_ ?_ | refine OD_ hm ?_
        refine G_ 4 hE ?_
        refine L_ hE ?_ (hd := by exact keyC_gx hT hB) (hg := by exact ⟨rfl, by rw [hkl]; omega, by rw [keyC_gx hT hB]; rfl⟩)
        refine G_ 4 hE ?_
        obtain ⟨P, hP0⟩ : ∃ P, P = List.take 16 (List.drop (16 * r) K) := ⟨_, rfl⟩
        have hPl : P.length = 16 := by rw [hP0, List.length_take, List.length_drop]; omega
        rw [← hP0]
        have hC : List.take (r * 16) (List.map D.u8 (List.take (16 * r) K)) ++ List.take 16 (List.map D.u8 P) = List.map D.u8 (List.take (16 * (r + 1)) K) := by
          rw [← List.map_take, ← List.map_take, ← List.map_append, List.take_take, show min (r * 16) (16 * r) = 16 * r by omega, hP0, List.take_take, show 16 * (r + 1) = 16 * r + 16 by omega, List.take_add]
          rfl
        refine G_ 1 hE ?_ (hg := ?_)
        rotate_left
        · refine ⟨⟨rfl, Nat.le_of_ble_eq_true rfl, Nat.le_of_ble_eq_true rfl, rfl, rfl, fun p hp => ?_, fun h => by cases h⟩, trivial⟩
          rw [List.mem_singleton] at hp
          subst hp
          exact ⟨(List.length_map ..).trans hPl, u8_sc P⟩
        refine G_ 1 hE ?_ (hg := ?_)
        rotate_left
        · (repeat' apply And.intro) <;> first | exact u8_sc_cut _ _ _ | exact sg_
        rw [hC, show min (r * 16) (min (16 * r) K.length) + min 16 P.length = 16 * (r + 1) by omega]
        refine G_ 200 hE ?_
        rw [keyC_x hT hB]
        first | refine rz ?_ | refine ZD_ ?_
        refine A_ ?_
        rw [show 16 * r + 16 = 16 * (r + 1) by omega, show 176 - 16 * r - 16 = 176 - 16 * (r + 1) by omega]
        refine lq_n (r + 1) ?_ (by omega) (by omega)
        exact wk_ hrc
      · obtain rfl : r = 11 := by omega
        repeat' (first | refine A1_ ?_ | refine C_ hE (fun hc => ?_) (fun hc => ?_) <;> (try (exfalso; omega)))
        rw [List.take_of_length_le (show K.length ≤ 176 by omega)]
        refine ret_ (own := []) (fro := [20, 170]) (h := .tcons _ _ _ _ [] [] [20, 170] [] (mat_key hT hB hwl rfl rfl rfl rfl rfl) (.tcons _ _ _ _ [] [] [] [] (mat_eq rfl rfl) .tnil))
end Go.Proofs.YtabkpoklihkifaaDoor
