/- What the claim leans on, text Zu: Gc0, GcL, Gc1, Gc1b, Gc2, Gc3, Gc4, Gc5, Gc6, Gc7, Bl0. No condition beyond what each lemma states. -/
import Derived.Test.YtabkpoklihkifaaDoorZs
import Derived.Test.YtabkpoklihkifaaDoorZr
import Derived.Test.YtabkpoklihkifaaDoorZd
import Derived.Test.YtabkpoklihkifaaDoorZt

/- Bytes that are hidden and marked at once, in plain Lean: what the functions of package gcm reckon. -/
namespace Go.Proofs.YtabkpoklihkifaaDoor
open Go Go.RowKit
set_option linter.unusedVariables false
set_option linter.unusedSimpArgs false
set_option maxRecDepth 100000
def o64 (a b : Int) : Int := bits .or .u64 a b
def x64 (a b : Int) : Int := bits .xor .u64 a b
theorem o64_def (a b : Int) : bits .or .u64 a b = o64 a b := rfl
theorem x64_def (a b : Int) : bits .xor .u64 a b = x64 a b := rfl
/-- An element of some bytes' first half, its second half. -/
def ofI (l : List UInt8) (a : Nat) : Nat → Int
  | 0 => 0
  | i + 1 => o64 (sw64 (ofI l a i) 8) (gb l (i + a)).toNat
theorem ofI_s (l : List UInt8) (a i : Nat) : ofI l a (i + 1) = o64 (sw64 (ofI l a i) 8) (gb l (i + a)).toNat := rfl
theorem ofI_0 (l : List UInt8) (a : Nat) : ofI l a 0 = 0 := rfl
structure El where
  hi : Int
  lo : Int
def ofE (l : List UInt8) : El := ⟨ofI l 0 8, ofI l 8 8⟩
def elD (p : El) : D := .agg [.int .u64 p.hi, .int .u64 p.lo]
def elC (p : El) : List D := [.int .u64 p.hi, .int .u64 p.lo]
def addE (p q : El) : El := ⟨x64 p.hi q.hi, x64 p.lo q.lo⟩
/-- An element's bytes. -/
def byS (p : El) : Nat → List UInt8
  | 0 => List.replicate 16 0
  | k + 1 => ((byS p k).set k (b8 (p.hi / 2 ^ min (56 - 8 * (k : Int)).toNat 64))).set (k + 8) (b8 (p.lo / 2 ^ min (56 - 8 * (k : Int)).toNat 64))
theorem byS_len (p : El) (k : Nat) : (byS p k).length = 16 := by
  induction k with
  | zero => rfl
  | succ k ih => unfold byS; rw [List.length_set, List.length_set, ih]
def byE (p : El) : List UInt8 := byS p 8
theorem byE_len (p : El) : (byE p).length = 16 := byS_len p 8
/-- The product, bit by bit. -/
structure Tm where
  z : El
  f : El
def tmH (f : El) : El := ⟨f.hi / 2 ^ min 1 64, o64 (f.lo / 2 ^ min 1 64) (sw64 f.hi 63)⟩
def tmX (b : Bool) (f : El) : El := if b then ⟨x64 f.hi 16212958658533785600, f.lo⟩ else f
def bit64 (x : Int) (n : Nat) : Bool := decide (bits .and .u64 (x / 2 ^ min n 64) 1 = 1)
def odd64 (x : Int) : Bool := decide (bits .and .u64 x 1 = 1)
def tmN (x : Int) (n : Nat) (s : Tm) : Tm := ⟨if bit64 x (63 - (n : Int)).toNat then addE s.z s.f else s.z, tmX (odd64 s.f.lo) (tmH s.f)⟩
def tmI (x : Int) (s : Tm) : Nat → Tm
  | 0 => s
  | n + 1 => tmN x n (tmI x s n)
def tmS (p q : El) : Nat → Tm
  | 0 => ⟨⟨0, 0⟩, q⟩
  | 1 => tmI p.hi ⟨⟨0, 0⟩, q⟩ 64
  | _ => tmI p.lo (tmI p.hi ⟨⟨0, 0⟩, q⟩ 64) 64
theorem tmS_0 (p q : El) : tmS p q 0 = ⟨⟨0, 0⟩, q⟩ := rfl
theorem tmS_1 (p q : El) : tmS p q (0 + 1) = tmI p.hi (tmS p q 0) 64 := rfl
theorem tmS_2 (p q : El) : tmS p q (1 + 1) = tmI p.lo (tmS p q 1) 64 := rfl
theorem tmI_0 (x : Int) (s : Tm) : tmI x s 0 = s := rfl
theorem tmI_s (x : Int) (s : Tm) (n : Nat) : tmI x s (n + 1) = tmN x n (tmI x s n) := rfl
def tmE (p q : El) : El := (tmS p q 2).z
/-- A piece, filled up with noughts. -/
def p16 (c : List UInt8) : List UInt8 := c ++ List.drop c.length (List.replicate 16 0)
theorem p16_len {c : List UInt8} (h : c.length ≤ 16) : (p16 c).length = 16 := by simp [p16]; omega
def fpE (h y : El) (p : List UInt8) (ks : List Nat) : El := ks.foldl (fun y k => tmE (addE y (ofE (p16 (pc p 16 k)))) h) y
theorem fpE_s (h y : El) (p : List UInt8) (ks : List Nat) (k : Nat) : fpE h y p (ks ++ [k]) = tmE (addE (fpE h y p ks) (ofE (p16 (pc p 16 k)))) h := by
  unfold fpE
  rw [List.foldl_append]
  rfl
def fdE (h : El) (ps : List (List UInt8)) : Nat → El
  | 0 => ⟨0, 0⟩
  | i + 1 => fpE h (fdE h ps i) (ps.getD i []) (List.range (pcN (ps.getD i []).length 16))
/-- What texts are folded to. -/
def foldB (by_ : List UInt8) (ps : List (List UInt8)) : List UInt8 := byE (fdE (ofE by_) ps ps.length)
theorem foldB_len (b : List UInt8) (ps : List (List UInt8)) : (foldB b ps).length = 16 := byE_len _
end Go.Proofs.YtabkpoklihkifaaDoor

/- Elements and their bytes, in plain Lean: a sum of two elements is the sum of their bytes. -/
namespace Go.Proofs.YtabkpoklihkifaaDoor
open Go Go.RowKit
set_option linter.unusedVariables false
set_option linter.unusedSimpArgs false
theorem w64_nat (n : Nat) (h : n < 18446744073709551616) : IntKind.u64.wrap (n : Int) = n := wrap_inR _ _ (by simp [inR, IntKind.min, IntKind.max, IntKind.signed, IntKind.bits]; omega)
theorem o64_nat (a b : Nat) (ha : a < 2 ^ 64) (hb : b < 2 ^ 64) : o64 (a : Int) (b : Int) = ((a ||| b : Nat) : Int) := by
  have h := Nat.or_lt_two_pow (n := 64) ha hb
  show IntKind.u64.wrap ((BitVec.ofInt 64 (a : Int) ||| BitVec.ofInt 64 (b : Int)).toNat : Int) = _
  rw [BitVec.toNat_or, BitVec.ofInt_natCast, BitVec.ofInt_natCast, BitVec.toNat_ofNat, BitVec.toNat_ofNat, Nat.mod_eq_of_lt ha, Nat.mod_eq_of_lt hb, w64_nat _ h]
theorem x64_nat (a b : Nat) (ha : a < 2 ^ 64) (hb : b < 2 ^ 64) : x64 (a : Int) (b : Int) = ((a ^^^ b : Nat) : Int) := by
  have h := Nat.xor_lt_two_pow (n := 64) ha hb
  show IntKind.u64.wrap ((BitVec.ofInt 64 (a : Int) ^^^ BitVec.ofInt 64 (b : Int)).toNat : Int) = _
  rw [BitVec.toNat_xor, BitVec.ofInt_natCast, BitVec.ofInt_natCast, BitVec.toNat_ofNat, BitVec.toNat_ofNat, Nat.mod_eq_of_lt ha, Nat.mod_eq_of_lt hb, w64_nat _ h]
/-- A number of some bytes. -/
def nbI (l : List UInt8) (a : Nat) : Nat → Nat
  | 0 => 0
  | i + 1 => nbI l a i * 256 + (gb l (i + a)).toNat
theorem nbI_lt (l : List UInt8) (a i : Nat) : nbI l a i < 256 ^ i := by
  induction i with
  | zero => simp [nbI]
  | succ i ih =>
    have := UInt8.toNat_lt (gb l (i + a))
    unfold nbI
    rw [Nat.pow_succ]
    omega
theorem ofI_nb (l : List UInt8) (a i : Nat) (h : i ≤ 8) : ofI l a i = (nbI l a i : Int) := by
  induction i with
  | zero => rfl
  | succ i ih =>
    have h1 := nbI_lt l a i
    have h2 : 256 ^ i ≤ 256 ^ 7 := Nat.pow_le_pow_right (by decide) (by omega)
    have h3 := UInt8.toNat_lt (gb l (i + a))
    have h4 : sw64 (nbI l a i : Int) 8 = ((nbI l a i * 256 : Nat) : Int) := by
      unfold sw64
      rw [show ((nbI l a i : Int) * 2 ^ min 8 64) = ((nbI l a i * 256 : Nat) : Int) by simp, w64_nat _ (by omega)]
    unfold ofI nbI
    rw [ih (by omega), h4, o64_nat _ _ (by omega) (by omega)]
    congr 1
    have := Nat.shiftLeft_add_eq_or_of_lt (i := 8) (b := (gb l (i + a)).toNat) (by omega) (nbI l a i)
    rw [Nat.shiftLeft_eq] at this
    exact this.symm
theorem nb_at (l : List UInt8) (a : Nat) : ∀ k < 8, nbI l a 8 / 2 ^ (56 - 8 * k) % 256 = (gb l (k + a)).toNat := by
  have h0 := UInt8.toNat_lt (gb l (0 + a)); have h1 := UInt8.toNat_lt (gb l (1 + a)); have h2 := UInt8.toNat_lt (gb l (2 + a)); have h3 := UInt8.toNat_lt (gb l (3 + a))
  have h4 := UInt8.toNat_lt (gb l (4 + a)); have h5 := UInt8.toNat_lt (gb l (5 + a)); have h6 := UInt8.toNat_lt (gb l (6 + a)); have h7 := UInt8.toNat_lt (gb l (7 + a))
  intro k hk
  unfold nbI nbI nbI nbI nbI nbI nbI nbI nbI
  rcases k with _ | _ | _ | _ | _ | _ | _ | _ | k
  all_goals try omega
  all_goals simp only [Nat.reduceMul, Nat.reduceSub, Nat.reducePow, Nat.reduceAdd]
  all_goals omega
theorem xor_at (x y n : Nat) : (x ^^^ y) / 2 ^ n % 256 = (x / 2 ^ n % 256) ^^^ (y / 2 ^ n % 256) := by
  rw [show (256 : Nat) = 2 ^ 8 from rfl, ← Nat.shiftRight_eq_div_pow, ← Nat.shiftRight_eq_div_pow, ← Nat.shiftRight_eq_div_pow, Nat.shiftRight_xor_distrib, Nat.xor_mod_two_pow]
theorem b8_xor (x y n : Nat) : b8 (((x ^^^ y : Nat) : Int) / 2 ^ n) = b8 ((x : Int) / 2 ^ n) ^^^ b8 ((y : Int) / 2 ^ n) := by
  have e : ∀ z : Nat, b8 ((z : Int) / 2 ^ n) = UInt8.ofNat (z / 2 ^ n % 256) := fun z => by
    rw [show ((z : Int) / 2 ^ n) = ((z / 2 ^ n : Nat) : Int) by simp]
    unfold b8
    first | rfl | (congr 1 <;> omega)
  rw [e, e, e, xor_at]
  exact UInt8.toNat_inj.1 (by rw [UInt8.toNat_xor, UInt8.toNat_ofNat', UInt8.toNat_ofNat', UInt8.toNat_ofNat', Nat.mod_mod, Nat.mod_mod]; exact Nat.mod_eq_of_lt (Nat.xor_lt_two_pow (n := 8) (by omega) (by omega)))
theorem b8_nb (l : List UInt8) (a k : Nat) (h : k < 8) : b8 ((nbI l a 8 : Int) / 2 ^ (56 - 8 * k)) = gb l (k + a) := by
  rw [show ((nbI l a 8 : Int) / 2 ^ (56 - 8 * k)) = ((nbI l a 8 / 2 ^ (56 - 8 * k) : Nat) : Int) by simp]
  refine UInt8.toNat_inj.1 ?_
  rw [← nb_at l a k h]
  unfold b8
  rw [UInt8.toNat_ofNat']
  omega
theorem byE_eq (p : El) : byE p = [b8 (p.hi / 2 ^ 56), b8 (p.hi / 2 ^ 48), b8 (p.hi / 2 ^ 40), b8 (p.hi / 2 ^ 32), b8 (p.hi / 2 ^ 24), b8 (p.hi / 2 ^ 16), b8 (p.hi / 2 ^ 8), b8 (p.hi / 2 ^ 0), b8 (p.lo / 2 ^ 56), b8 (p.lo / 2 ^ 48), b8 (p.lo / 2 ^ 40), b8 (p.lo / 2 ^ 32), b8 (p.lo / 2 ^ 24), b8 (p.lo / 2 ^ 16), b8 (p.lo / 2 ^ 8), b8 (p.lo / 2 ^ 0)] := rfl
/-- The sum's bytes. -/
theorem by_add (t p : List UInt8) : byE (addE (ofE t) (ofE p)) = xorB t p := by
  rw [byE_eq]
  unfold addE ofE
  simp only
  rw [ofI_nb _ _ _ (Nat.le_refl 8), ofI_nb _ _ _ (Nat.le_refl 8), ofI_nb _ _ _ (Nat.le_refl 8), ofI_nb _ _ _ (Nat.le_refl 8)]
  have h : ∀ (l : List UInt8) (a : Nat), nbI l a 8 < 2 ^ 64 := fun l a => nbI_lt l a 8
  rw [x64_nat _ _ (h _ _) (h _ _), x64_nat _ _ (h _ _) (h _ _)]
  simp only [b8_xor]
  have q := fun (l : List UInt8) (a : Nat) => (⟨b8_nb l a 0 (by decide), b8_nb l a 1 (by decide), b8_nb l a 2 (by decide), b8_nb l a 3 (by decide), b8_nb l a 4 (by decide), b8_nb l a 5 (by decide), b8_nb l a 6 (by decide), b8_nb l a 7 (by decide)⟩ : _ ∧ _ ∧ _ ∧ _ ∧ _ ∧ _ ∧ _ ∧ _)
  simp only [Nat.mul_zero, Nat.reduceMul, Nat.reduceSub] at q
  simp only [(q _ _).1, (q _ _).2.1, (q _ _).2.2.1, (q _ _).2.2.2.1, (q _ _).2.2.2.2.1, (q _ _).2.2.2.2.2.1, (q _ _).2.2.2.2.2.2.1, (q _ _).2.2.2.2.2.2.2]
  rfl
end Go.Proofs.YtabkpoklihkifaaDoor

/- gcm: of, add, bytes. Printed by wp.py. -/
namespace Go.Proofs.YtabkpoklihkifaaDoor
open Go Go.RowKit
set_option linter.unusedVariables false
set_option linter.unusedSimpArgs false
set_option maxRecDepth 100000
set_option maxHeartbeats 4000000
attribute [local irreducible] inR VC RG VCn sq inS lq nq jq Wk ofI o64 x64 sw64

namespace Ueof_fc
theorem U : type_of% (@drop_rep UInt8) ∧ type_of% (@drop_rep D) ∧ type_of% (@List.take_zero UInt8) ∧ type_of% (@List.take_zero D) ∧ type_of% (@List.length_set D) := ⟨(@drop_rep UInt8), (@drop_rep D), (@List.take_zero UInt8), (@List.take_zero D), (@List.length_set D)⟩
end Ueof_fc
open Ueof_fc
theorem eof_fc (l : List UInt8) (hl : l.length = 16) : FC Tryd.prog GE 15 [.rob l] (elD (ofE l)) none := by
  unfold elD ofE
  refine fic_ 31 ti_eq gpE Tryd.func15 (fun C hE hm hP hrc hrn => ?_)
  refine A_ ?_
  refine vl (fun i : Nat => ⟨[(0, .rob l), (2, .ptr 2 1 0), (3, .ptr 3 1 0), (5, .int .i64 i)], [(2, ⟨⟨1, 1, 2⟩, some (.cells [.int .u64 0, .int .u64 0])⟩), (3, ⟨⟨1, 1, 2⟩, some (.cells [.int .u64 (ofI l 0 i), .int .u64 (ofI l 8 i)])⟩)], []⟩) (fun i => i ≤ 8) (fun i => 8 - i) 0 ?_ (by decide) (fun i hi => ?_)
  · rw [ofI_0, ofI_0]
    exact wk_ hrc
  by_cases h8 : i < 8
  · have e8 : ((i : Int) + 8).toNat = i + 8 := by omega
    repeat' (first | refine A1_ ?_ | refine C_ hE (fun hc => ?_) (fun hc => ?_) <;> (try (exfalso; omega)))
    first | refine O_ ?_ | refine OD_ hm ?_
    refine G_ 2 hE ?_
    refine SWN_ hE ?_
    refine G_ 200 hE ?_
    first | refine rz ?_ | refine ZD_ ?_
    refine A_ ?_
    first | refine O_ ?_ | refine OD_ hm ?_
    refine G_ 2 hE ?_
    refine SWN_ hE ?_
    refine G_ 200 hE ?_
    first | refine rz ?_ | refine ZD_ ?_
    refine A_ ?_
    rw [e8, o64_def, o64_def]
    refine lq_n (i + 1) ?_ (by omega) (by omega)
    rw [ofI_s, ofI_s]
    exact wk_ hrc
  · obtain rfl : i = 8 := by omega
    generalize ofI l 0 8 = a
    generalize ofI l 8 8 = b
    repeat' (first | refine A1_ ?_ | refine C_ hE (fun hc => ?_) (fun hc => ?_) <;> (try (exfalso; omega)))
    refine retc_ (hg := ?_) (d' := .agg [.int .u64 a, .int .u64 b]) (own := []) (fro := []) (h := ?_)
    · exact ⟨rfl, Nat.le_of_ble_eq_true rfl, rfl, fun h => by cases h⟩
    · exact .cnv _ _ _ _ _ (mat_eq rfl rfl) (fun _ _ _ _ h => h)

theorem eadd_fc (p q : El) : FC Tryd.prog GE 17 [.agg [.int .u64 p.hi, .int .u64 p.lo], .agg [.int .u64 q.hi, .int .u64 q.lo]] (elD (addE p q)) none := by
  unfold elD addE
  refine fic_ 16 ti_eq gpE Tryd.func17 (fun C hE hm hP hrc hrn => ?_)
  refine A_ ?_
  rw [x64_def, x64_def]
  simp only
  generalize x64 p.hi q.hi = a
  generalize x64 p.lo q.lo = b
  refine retc_ (hg := ?_) (d' := .agg [.int .u64 a, .int .u64 b]) (own := []) (fro := []) (h := ?_)
  · exact ⟨rfl, Nat.le_of_ble_eq_true rfl, rfl, fun h => by cases h⟩
  · exact .cnv _ _ _ _ _ (mat_eq rfl rfl) (fun _ _ _ _ h => h)

theorem eby_fc (p : El) : FC Tryd.prog GE 19 [.agg [.int .u64 p.hi, .int .u64 p.lo]] (.aggb (byE p)) none := by
  refine fic_ 29 ti_eq gpE Tryd.func19 (fun C hE hm hP hrc hrn => ?_)
  refine A_ ?_
  refine vl (fun i : Nat => ⟨[(1, .ptr 1 1 0), (2, .ptr 2 1 0), (3, .ptr 3 1 0), (5, .int .i64 i)], [(1, ⟨⟨1, 1, 2⟩, some (.cells [.int .u64 p.hi, .int .u64 p.lo])⟩), (2, ⟨⟨1, 1, 16⟩, some (.bytes (List.replicate 16 0))⟩), (3, ⟨⟨1, 1, 16⟩, some (.bytes (byS p i))⟩)], []⟩) (fun i => i ≤ 8) (fun i => 8 - i) 0 ?_ (by decide) (fun i hi => ?_)
  · exact wk_ hrc
  have hl := byS_len p i
  by_cases h8 : i < 8
  · have e8 : ((i : Int) + 8).toNat = i + 8 := by omega
    repeat' (first | refine A1_ ?_ | refine C_ hE (fun hc => ?_) (fun hc => ?_) <;> (try (exfalso; omega)))
    rw [e8]
    refine lq_n (i + 1) ?_ (by omega) (by omega)
    exact wk_ hrc
  · obtain rfl : i = 8 := by omega
    rw [show byS p 8 = byE p from rfl] at hl ⊢
    repeat' (first | refine A1_ ?_ | refine C_ hE (fun hc => ?_) (fun hc => ?_) <;> (try (exfalso; omega)))
    rw [st16 hl, List.take_of_length_le (by omega)]
    exact retc_

end Go.Proofs.YtabkpoklihkifaaDoor

/- gcm: times. Printed by wp.py. -/
namespace Go.Proofs.YtabkpoklihkifaaDoor
open Go Go.RowKit
set_option linter.unusedVariables false
set_option linter.unusedSimpArgs false
set_option maxRecDepth 100000
set_option maxHeartbeats 4000000
attribute [local irreducible] inR VC RG VCn sq inS lq nq jq Wk tmI tmS

namespace Uetm_fc
theorem U : type_of% (@drop_rep UInt8) ∧ type_of% (@drop_rep D) ∧ type_of% (@List.take_zero UInt8) ∧ type_of% (@List.take_zero D) ∧ type_of% (@List.length_set D) := ⟨(@drop_rep UInt8), (@drop_rep D), (@List.take_zero UInt8), (@List.take_zero D), (@List.length_set D)⟩
end Uetm_fc
open Uetm_fc
theorem etm_fc (p q : El) : FC Tryd.prog GE 18 [.agg [.int .u64 p.hi, .int .u64 p.lo], .agg [.int .u64 q.hi, .int .u64 q.lo]] (elD (tmE p q)) none := by
  unfold elD tmE
  refine fic_ 52 ti_eq gpE Tryd.func18 (fun C hE hm hP hrc hrn => ?_)
  refine A_ ?_
  refine vl (fun m : Nat => ⟨[(3, .ptr 3 1 0), (4, .ptr 4 1 0), (5, .ptr 5 1 0), (14, .agg [.int .u64 p.hi, .int .u64 p.lo]), (15, .int .i64 m)], [(3, ⟨⟨1, 1, 2⟩, some (.cells [.int .u64 (tmS p q m).f.hi, .int .u64 (tmS p q m).f.lo])⟩), (4, ⟨⟨1, 1, 2⟩, some (.cells [.int .u64 0, .int .u64 0])⟩), (5, ⟨⟨1, 1, 2⟩, some (.cells [.int .u64 (tmS p q m).z.hi, .int .u64 (tmS p q m).z.lo])⟩)], []⟩) (fun m => m ≤ 2) (fun m => 2 - m) 0 ?_ (by decide) (fun m hm => ?_)
  · rw [tmS_0]
    exact wk_ hrc
  rcases m with _ | _ | m
  · obtain ⟨s0, hs0⟩ : ∃ s0, s0 = tmS p q 0 := ⟨_, rfl⟩
    have hN : tmS p q (0 + 1) = tmI p.hi s0 64 := by rw [hs0]; exact tmS_1 p q
    simp only [Nat.zero_add, ← hs0]
    clear hs0
    repeat' (first | refine A1_ ?_ | refine C_ hE (fun hc => ?_) (fun hc => ?_) <;> (try (exfalso; omega)))
    refine vl (fun n : Nat => ⟨[(3, .ptr 3 1 0), (4, .ptr 4 1 0), (5, .ptr 5 1 0), (7, .int .u64 p.hi), (8, .int .i64 (63 - (n : Int))), (14, .agg [.int .u64 p.hi, .int .u64 p.lo]), (15, .int .i64 0)], [(3, ⟨⟨1, 1, 2⟩, some (.cells [.int .u64 (tmI p.hi s0 n).f.hi, .int .u64 (tmI p.hi s0 n).f.lo])⟩), (4, ⟨⟨1, 1, 2⟩, some (.cells [.int .u64 0, .int .u64 0])⟩), (5, ⟨⟨1, 1, 2⟩, some (.cells [.int .u64 (tmI p.hi s0 n).z.hi, .int .u64 (tmI p.hi s0 n).z.lo])⟩)], []⟩) (fun n => n ≤ 64) (fun n => 64 - n) 0 ?_ (by decide) (fun n hn => ?_)
    · rw [tmI_0]
      exact wk_ hrc
    by_cases h64 : n < 64
    · obtain ⟨⟨z, f⟩, hs⟩ : ∃ s, s = tmI p.hi s0 n := ⟨_, rfl⟩
      have hM : tmI p.hi s0 (n + 1) = tmN p.hi n ⟨z, f⟩ := by rw [tmI_s, hs]
      rw [← hs]
      clear hs
      have e63 : 63 - (n : Int) - 1 = 63 - ((n + 1 : Nat) : Int) := by omega
      simp only
      refine A_ ?_
      rw [decide_eq_true (show (0 : Int) ≤ 63 - (n : Int) by omega)]
      refine A_ ?_
      rw [show decide (bits .and .u64 (p.hi / 2 ^ min (63 - (n : Int)).toNat 64) 1 = 1) = bit64 p.hi (63 - (n : Int)).toNat from rfl]
      unfold tmN at hM
      cases hb : bit64 p.hi (63 - (n : Int)).toNat
      · rw [hb, if_neg (by decide)] at hM
        refine A_ ?_
        first | refine O_ ?_ | refine OD_ hm ?_
        refine G_ 8 hE ?_
        refine SWN_ hE ?_
        refine G_ 200 hE ?_
        first | refine rz ?_ | refine ZD_ ?_
        refine A_ ?_
        rw [show decide (bits .and .u64 f.lo 1 = 1) = odd64 f.lo from rfl]
        unfold tmX at hM
        cases ho : odd64 f.lo
        · rw [ho] at hM
          simp only [Bool.false_eq_true, if_false] at hM
          refine A_ ?_
          rw [e63]
          refine lq_n (n + 1) ?_ (by omega) (by omega)
          rw [hM]
          exact wk_ hrc
        · rw [ho] at hM
          simp only [if_true] at hM
          refine A_ ?_
          rw [e63]
          refine lq_n (n + 1) ?_ (by omega) (by omega)
          rw [hM]
          exact wk_ hrc
      · rw [hb, if_pos rfl] at hM
        refine A_ ?_
        first | refine O_ ?_ | refine OD_ hm ?_
        refine G_ 2 hE ?_
        refine rc_ hE hP (eadd_fc z f) Tryd.func17 ?_
        refine G_ 200 hE ?_
        first | refine rz ?_ | refine ZD_ ?_
        generalize addE z f = z at *
        refine A_ ?_
        first | refine O_ ?_ | refine OD_ hm ?_
        refine G_ 8 hE ?_
        refine SWN_ hE ?_
        refine G_ 200 hE ?_
        first | refine rz ?_ | refine ZD_ ?_
        refine A_ ?_
        rw [show decide (bits .and .u64 f.lo 1 = 1) = odd64 f.lo from rfl]
        unfold tmX at hM
        cases ho : odd64 f.lo
        · rw [ho] at hM
          simp only [Bool.false_eq_true, if_false] at hM
          refine A_ ?_
          rw [e63]
          refine lq_n (n + 1) ?_ (by omega) (by omega)
          rw [hM]
          exact wk_ hrc
        · rw [ho] at hM
          simp only [if_true] at hM
          refine A_ ?_
          rw [e63]
          refine lq_n (n + 1) ?_ (by omega) (by omega)
          rw [hM]
          exact wk_ hrc
    · obtain rfl : n = 64 := by omega
      rw [← hN]
      repeat' (first | refine A1_ ?_ | refine C_ hE (fun hc => ?_) (fun hc => ?_) <;> (try (exfalso; omega)))
      refine lq_n (0 + 1) ?_ (by omega) (by omega)
      exact wk_ hrc
  · obtain ⟨s0, hs0⟩ : ∃ s0, s0 = tmS p q 1 := ⟨_, rfl⟩
    have hN : tmS p q (1 + 1) = tmI p.lo s0 64 := by rw [hs0]; exact tmS_2 p q
    simp only [Nat.zero_add, ← hs0]
    clear hs0
    repeat' (first | refine A1_ ?_ | refine C_ hE (fun hc => ?_) (fun hc => ?_) <;> (try (exfalso; omega)))
    refine vl (fun n : Nat => ⟨[(3, .ptr 3 1 0), (4, .ptr 4 1 0), (5, .ptr 5 1 0), (7, .int .u64 p.lo), (8, .int .i64 (63 - (n : Int))), (14, .agg [.int .u64 p.hi, .int .u64 p.lo]), (15, .int .i64 1)], [(3, ⟨⟨1, 1, 2⟩, some (.cells [.int .u64 (tmI p.lo s0 n).f.hi, .int .u64 (tmI p.lo s0 n).f.lo])⟩), (4, ⟨⟨1, 1, 2⟩, some (.cells [.int .u64 0, .int .u64 0])⟩), (5, ⟨⟨1, 1, 2⟩, some (.cells [.int .u64 (tmI p.lo s0 n).z.hi, .int .u64 (tmI p.lo s0 n).z.lo])⟩)], []⟩) (fun n => n ≤ 64) (fun n => 64 - n) 0 ?_ (by decide) (fun n hn => ?_)
    · rw [tmI_0]
      exact wk_ hrc
    by_cases h64 : n < 64
    · obtain ⟨⟨z, f⟩, hs⟩ : ∃ s, s = tmI p.lo s0 n := ⟨_, rfl⟩
      have hM : tmI p.lo s0 (n + 1) = tmN p.lo n ⟨z, f⟩ := by rw [tmI_s, hs]
      rw [← hs]
      clear hs
      have e63 : 63 - (n : Int) - 1 = 63 - ((n + 1 : Nat) : Int) := by omega
      simp only
      refine A_ ?_
      rw [decide_eq_true (show (0 : Int) ≤ 63 - (n : Int) by omega)]
      refine A_ ?_
      rw [show decide (bits .and .u64 (p.lo / 2 ^ min (63 - (n : Int)).toNat 64) 1 = 1) = bit64 p.lo (63 - (n : Int)).toNat from rfl]
      unfold tmN at hM
      cases hb : bit64 p.lo (63 - (n : Int)).toNat
      · rw [hb, if_neg (by decide)] at hM
        refine A_ ?_
        first | refine O_ ?_ | refine OD_ hm ?_
        refine G_ 8 hE ?_
        refine SWN_ hE ?_
        refine G_ 200 hE ?_
        first | refine rz ?_ | refine ZD_ ?_
        refine A_ ?_
        rw [show decide (bits .and .u64 f.lo 1 = 1) = odd64 f.lo from rfl]
        unfold tmX at hM
        cases ho : odd64 f.lo
        · rw [ho] at hM
          simp only [Bool.false_eq_true, if_false] at hM
          refine A_ ?_
          rw [e63]
          refine lq_n (n + 1) ?_ (by omega) (by omega)
          rw [hM]
          exact wk_ hrc
        · rw [ho] at hM
          simp only [if_true] at hM
          refine A_ ?_
          rw [e63]
          refine lq_n (n + 1) ?_ (by omega) (by omega)
          rw [hM]
          exact wk_ hrc
      · rw [hb, if_pos rfl] at hM
        refine A_ ?_
        first | refine O_ ?_ | refine OD_ hm ?_
        refine G_ 2 hE ?_
        refine rc_ hE hP (eadd_fc z f) Tryd.func17 ?_
        refine G_ 200 hE ?_
        first | refine rz ?_ | refine ZD_ ?_
        generalize addE z f = z at *
        refine A_ ?_
        first | refine O_ ?_ | refine OD_ hm ?_
        refine G_ 8 hE ?_
        refine SWN_ hE ?_
        refine G_ 200 hE ?_
        first | refine rz ?_ | refine ZD_ ?_
        refine A_ ?_
        rw [show decide (bits .and .u64 f.lo 1 = 1) = odd64 f.lo from rfl]
        unfold tmX at hM
        cases ho : odd64 f.lo
        · rw [ho] at hM
          simp only [Bool.false_eq_true, if_false] at hM
          refine A_ ?_
          rw [e63]
          refine lq_n (n + 1) ?_ (by omega) (by omega)
          rw [hM]
          exact wk_ hrc
        · rw [ho] at hM
          simp only [if_true] at hM
          refine A_ ?_
          rw [e63]
          refine lq_n (n + 1) ?_ (by omega) (by omega)
          rw [hM]
          exact wk_ hrc
    · obtain rfl : n = 64 := by omega
      rw [← hN]
      repeat' (first | refine A1_ ?_ | refine C_ hE (fun hc => ?_) (fun hc => ?_) <;> (try (exfalso; omega)))
      refine lq_n (1 + 1) ?_ (by omega) (by omega)
      exact wk_ hrc
  · obtain rfl : m = 0 := by omega
    repeat' (first | refine A1_ ?_ | refine C_ hE (fun hc => ?_) (fun hc => ?_) <;> (try (exfalso; omega)))
    generalize (tmS p q 2).z.hi = a
    generalize (tmS p q 2).z.lo = b
    refine retc_ (hg := ?_) (d' := .agg [.int .u64 a, .int .u64 b]) (own := []) (fro := []) (h := ?_)
    · exact ⟨rfl, Nat.le_of_ble_eq_true rfl, rfl, fun h => by cases h⟩
    · exact .cnv _ _ _ _ _ (mat_eq rfl rfl) (fun _ _ _ _ h => h)
end Go.Proofs.YtabkpoklihkifaaDoor

/- gcm: Fold. Printed by wp.py. -/
namespace Go.Proofs.YtabkpoklihkifaaDoor
open Go Go.RowKit
set_option linter.unusedVariables false
set_option linter.unusedSimpArgs false
set_option maxRecDepth 100000
set_option maxHeartbeats 4000000
attribute [local irreducible] inR VC RG VCn sq inS lq nq jq Wk rq tmI tmS ofI byS tmE addE ofE byE

namespace Ufold_fc
theorem U : type_of% (@drop_rep UInt8) ∧ type_of% (@drop_rep D) ∧ type_of% (@List.take_zero UInt8) ∧ type_of% (@List.take_zero D) ∧ type_of% (@List.length_set D) := ⟨(@drop_rep UInt8), (@drop_rep D), (@List.take_zero UInt8), (@List.take_zero D), (@List.length_set D)⟩
end Ufold_fc
open Ufold_fc
theorem fold_fc (b : List UInt8) (ps : List (List UInt8)) (hb : b.length = 16) (hps : ∀ i, (ps.getD i []).length ≤ 1000000) (hn : ps.length ≤ 1000000) : FC Tryd.prog GE 8 [.aggb b, .rof 1 ps.length (fun i _ => .rob (ps.getD i []))] (.aggb (foldB b ps)) none := by
  have ef := eof_fc b hb; unfold elD at ef
  refine fic_ 34 ti_eq gpE Tryd.func8 (fun C hE hm hP hrc hrn => ?_)
  refine A_ ?_
  rw [hb]
  first | refine O_ ?_ | refine OD_ hm ?_
  refine G_ 1 hE ?_
  refine rc_ hE hP (ef) Tryd.func15 ?_
  refine G_ 200 hE ?_
  first | refine rz ?_ | refine ZD_ ?_
  refine A_ ?_
  obtain ⟨h, hh⟩ : ∃ h, h = ofE b := ⟨_, rfl⟩
  rw [← hh]
  refine vl (α := Nat × List Nat) (fun x => ⟨[(4, .ptr 4 1 0), (5, .ptr 5 1 0), (6, .ptr 6 1 0), (13, .rof 1 ps.length (fun i _ => .rob (ps.getD i []))), (14, .int .i64 ps.length), (15, .int .i64 x.1)], [(4, ⟨⟨1, 1, 16⟩, some (.bytes (List.replicate 16 0))⟩), (5, ⟨⟨1, 1, 2⟩, some (.cells [.int .u64 h.hi, .int .u64 h.lo])⟩), (6, ⟨⟨1, 1, 2⟩, some (.cells [.int .u64 (fdE h ps x.1).hi, .int .u64 (fdE h ps x.1).lo])⟩)], x.2⟩) (fun x => x.1 ≤ ps.length) (fun x => ps.length - x.1) (0, []) ?_ (Nat.zero_le _) (fun x hi => ?_)
  · exact wk_ hrc
  obtain ⟨i, dk⟩ := x
  simp only at hi ⊢
  by_cases hin : i < ps.length
  · have hpl := hps i
    have hN : fdE h ps (i + 1) = fpE h (fdE h ps i) (ps.getD i []) (List.range (pcN (ps.getD i []).length 16)) := rfl
    repeat' (first | refine A1_ ?_ | refine C_ hE (fun hc => ?_) (fun hc => ?_) <;> (try (exfalso; omega)))
    obtain ⟨p, hp⟩ : ∃ p, p = ps.getD i [] := ⟨_, rfl⟩
    obtain ⟨y, hy⟩ : ∃ y, y = fdE h ps i := ⟨_, rfl⟩
    rw [← hp, ← hy] at hN
    rw [← hp] at hpl
    rw [← hp, ← hy]
    first | refine O_ ?_ | refine OD_ hm ?_
    refine G_ 200 hE ?_
    refine rc_ hE hP (chunk_fc GE p 16 (by decide)) Tryd.func16 ?_
    refine G_ 200 hE ?_
    first | refine rz ?_ | refine ZD_ ?_
    refine A_ ?_
    refine vf (dk := dk) (sl := [(20, .chunk 26 p 16), (4, .ptr 4 1 0), (5, .ptr 5 1 0), (6, .ptr 6 1 0), (13, .rof 1 ps.length (fun i _ => .rob (ps.getD i []))), (14, .int .i64 ps.length), (15, .int .i64 i)]) hE hrn (by rw [hP]; exact chunk_ok) ?_ ?_ ?_ rfl rfl (fun ks => [(4, ⟨⟨1, 1, 16⟩, some (.bytes (List.replicate 16 0))⟩), (5, ⟨⟨1, 1, 2⟩, some (.cells [.int .u64 h.hi, .int .u64 h.lo])⟩), (6, ⟨⟨1, 1, 2⟩, some (.cells [.int .u64 (fpE h y p ks).hi, .int .u64 (fpE h y p ks).lo])⟩)]) (fun _ => True) ?_ trivial rfl [4, 5, 6] ?_ ?_ ?_ ?_
    · omega
    · omega
    · omega
    · rw [show fpE h y p [] = y from rfl]
      exact wk_ hrc
    · exact look_nm rfl
    · exact fun d v h => absurd h (hrc d v)
    · intro C' pre k hE hP1 hkn _ hk hpre
      have hP := hP1.trans hP
      have hm : C'.P.follows .mixedOrders = true := by rw [hP]; kernel_rfl
      clear hrc hrn
      have hpl16 : (pc p 16 k).length ≤ 16 := by unfold pc; rw [List.length_take]; omega
      rw [fpE_s]
      obtain ⟨c, hc⟩ : ∃ c, c = pc p 16 k := ⟨_, rfl⟩
      obtain ⟨x, hx⟩ : ∃ x, x = fpE h y p pre := ⟨_, rfl⟩
      rw [← hc, ← hx]
      rw [← hc] at hpl16
      refine A_ ?_
      rw [List.take_of_length_le hpl16, Nat.min_eq_left hpl16, show c ++ List.drop c.length (List.replicate 16 0) = p16 c from rfl]
      have hw := p16_len hpl16
      have ef2 := eof_fc (p16 c) hw
      unfold elD at ef2
      generalize ofE (p16 c) = e at *
      generalize p16 c = w at *
      have ef3 := eadd_fc x e
      unfold elD at ef3
      have ef4 := etm_fc (addE x e) h
      unfold elD at ef4
      first | refine O_ ?_ | refine OD_ hm ?_
      refine G_ 2 hE ?_
      refine rc_ hE hP (ef2) Tryd.func15 ?_
      refine rc_ hE hP (ef3) Tryd.func17 ?_
      refine G_ 1 hE ?_
      generalize addE x e = z at *
      refine rc_ hE hP (ef4) Tryd.func18 ?_
      refine G_ 200 hE ?_
      first | refine rz ?_ | refine ZD_ ?_
      refine in_n ?_
      refine rq_n ?_ trivial
      refine wk_ofk rfl ?_ ?_ (fun d v h o ho => by have := hkn d v h o ho; simp at this ⊢; try omega) <;> (repeat' apply And.intro) <;> first | exact trivial | rfl | (intro o ho; simp [D.nm, nmL, ctNm, nmL_ownb, nmL_rob, nmL_str, nmL_cz] at ho <;> fail) | (intro o ho; simp [D.nm, nmL, ctNm, nmL_ownb, nmL_rob, nmL_str, nmL_cz] at ho ⊢ <;> omega) | (simp only [Z, U, Int.cast_ofNat_Int, UInt8.reduceToNat, UInt32.reduceToNat, Nat.reduceAdd, Nat.reduceMul, Nat.reduceSub, Nat.reduceLeDiff, Int.reduceToNat, Int.reducePow, Nat.reducePow] <;> fail) | (simp [St.ob, St.slot, look] <;> fail) | (simp [St.ob, St.slot, look]; omega) | simp [St.ob, St.slot, look] | skip
    · intro dk' _
      rw [← hN]
      refine in_n ?_
      refine in_n ?_
      refine sq_n ?_
      refine A_ ?_
      refine lq_n (i + 1, dk') ?_ (by omega) (by omega)
      exact wk_ hrc
  · obtain rfl : i = ps.length := by omega
    repeat' (first | refine A1_ ?_ | refine C_ hE (fun hc => ?_) (fun hc => ?_) <;> (try (exfalso; omega)))
    unfold foldB
    rw [← hh]
    generalize fdE h ps ps.length = y at *
    have e5 := eby_fc y
    have hl := byE_len y
    generalize byE y = r at *
    first | refine O_ ?_ | refine OD_ hm ?_
    refine G_ 1 hE ?_
    refine rc_ hE hP (e5) Tryd.func19 ?_
    refine G_ 200 hE ?_
    first | refine rz ?_ | refine ZD_ ?_
    rw [ap_drop (l := List.replicate 16 0) hl]
    refine A_ ?_
    have hr : List.take 16 r = r := List.take_of_length_le (by omega)
    have hz : D.aggb (List.take 16 (List.drop 0 r)) = D.aggb r := by rw [List.drop_zero, hr]
    refine retc_ (own := []) (fro := []) (hd := hz)
end Go.Proofs.YtabkpoklihkifaaDoor

/- gcm: New. Printed by wp.py. -/
namespace Go.Proofs.YtabkpoklihkifaaDoor
open Go Go.RowKit
set_option linter.unusedVariables false
set_option linter.unusedSimpArgs false
set_option maxRecDepth 100000
set_option maxHeartbeats 4000000
attribute [local irreducible] inR VC RG VCn sq inS lq nq jq Wk rq tmI tmS ofI byS tmE addE ofE byE sealB kxK T0 B0

/-- A box, for readers. -/
def bxC (x : D) (h : List UInt8) : List D := x :: h.map D.u8
def boxF (T B K h : List UInt8) : Nat → Nat → D := fun _ j => if j = 0 then keyD T B K else .u8 (gb h (j - 1))
def boxD (T B K h : List UInt8) : D := .rpf 0 0 17 1 (boxF T B K h)
theorem bxC_at {x : D} {h : List UInt8} (hl : h.length = 16) {j : Nat} (hj : j < 17) : (bxC x h)[j]? = some (if j = 0 then x else .u8 (gb h (j - 1))) := by
  unfold bxC gb
  cases j with
  | zero => rfl
  | succ j =>
    rw [List.getElem?_cons_succ, List.getElem?_map, List.getElem?_eq_getElem (by omega), if_neg (by omega), List.getD_eq_getElem?_getD, Nat.add_sub_cancel, List.getElem?_eq_getElem (by omega)]
    rfl
theorem box_cnv {T B K h : List UInt8} (hl : h.length = 16) : Cnv (.rop 0 (bxC (keyD T B K) h)) (boxD T B K h) := by
  intro w S v F hr
  cases hr with
  | rop _ _ b base us hb hc hr =>
    have := RV.rpf (w := w) (S := S) (ρ := ρ0) (H := H0) 0 0 17 1 (boxF T B K h) b base (fun i j => us (i * 17 + j)) hb (fun i j hi hj => by
      unfold boxF
      split
      · rfl
      · rfl) (fun i j hi hj => by
      obtain rfl : i = 0 := by omega
      rw [Nat.zero_mul, Nat.zero_add]
      exact hc j _ (bxC_at hl hj)) (fun i j hi hj => by
      obtain rfl : i = 0 := by omega
      rw [Nat.zero_mul, Nat.zero_add]
      have := hr j _ (bxC_at hl hj)
      unfold boxF
      exact this)
    exact this
theorem mat_box {s : St} {T B K h : List UInt8} {o g : Nat} (hl : h.length = 16) (ho : (s.ob o).ct = some (.cells (bxC (keyD T B K) h))) (hg : g = (s.sh o).gen) : Mat s (.ptr o g 0) (boxD T B K h) [] [o] := by
  have hsc : (bxC (keyD T B K) h).all D.sc = true := by
    unfold bxC
    rw [List.all_cons, u8_sc]
    rfl
  have hpf : (bxC (keyD T B K) h).all D.pf1 = true := by
    unfold bxC
    rw [List.all_cons, u8_pf1]
    rfl
  exact .cnv _ (.rop 0 (bxC (keyD T B K) h)) _ _ _ (.ptr_r o g _ _ [] ho hg hsc (by simp [bxC]) (.tall _ hpf)) (box_cnv hl)

theorem box_e {Ti : Nat → TI} {G : Nat → Option D} {s : St} {t T : Nat} {x : Operand} {cs : List D} (h : evg G s x = .agg cs) (hsc : cs.all D.sc = true) : opD Ti G s (some t) (.box T x) = optN s (some (True, t, eszOf Ti T, .cells cs, none, [t])) := by
  simp only [opD, evf_eq, h, boxC, hsc, if_true]
namespace Ugnew_fc
theorem U : type_of% (@drop_rep UInt8) ∧ type_of% (@drop_rep D) ∧ type_of% (@List.take_zero UInt8) ∧ type_of% (@List.take_zero D) ∧ type_of% (@List.length_set D) := ⟨(@drop_rep UInt8), (@drop_rep D), (@List.take_zero UInt8), (@List.take_zero D), (@List.length_set D)⟩
end Ugnew_fc
open Ugnew_fc
theorem gnew_fc (key : List UInt8) (hk : key.length = 16) : FC Tryd.prog GE 5 [.rob key] (.tup [boxD T0 B0 (kxK T0 key) (sealB T0 (kxK T0 key) (List.replicate 16 0)), .int .i64 0]) none := by
  have eb := bnew_fc key hk; have es := bseal_fc T0 B0 (kxK T0 key) (List.replicate 16 0) rfl; unfold keyD at eb es
  refine fi_ 20 [2, 3] ti_eq gpE Tryd.func5 (fun C hE hm hP hrc hrn => ?_)
  generalize kxK T0 key = K at *
  generalize T0 = T at *
  generalize B0 = B at *
  refine A_ ?_
  first | refine O_ ?_ | refine OD_ hm ?_
  refine G_ 1 hE ?_
  refine rc_ hE hP (eb) Tryd.func4 ?_
  refine G_ 200 hE ?_
  first | refine rz ?_ | refine ZD_ ?_
  refine A_ ?_
  have hl := sealB_len T K (List.replicate 16 0)
  generalize sealB T K (List.replicate 16 0) = h at *
  first | refine O_ ?_ | refine OD_ hm ?_
  refine G_ 3 hE ?_
  refine rc_ hE hP (es) Tryd.func7 ?_
  refine L_ hE ?_ (d1 := .agg (bxC (.rpf 0 0 513 1 (keyF T B K)) h)) (hd := ?_) (hg := ?_)
  rotate_left
  · show D.agg ([D.rpf 0 0 513 1 (keyF T B K)] ++ List.map D.u8 h ++ []) = _
    rw [List.append_nil]
    rfl
  · (repeat' apply And.intro) <;> first | exact u8_sc h | exact hl | exact sg_
  refine L_ hE ?_ (e := (box_e rfl (by show ([_] ++ List.map D.u8 h).all D.sc = true; rw [List.all_append, u8_sc]; rfl)).trans rfl)
  refine G_ 200 hE ?_
  first | refine rz ?_ | refine ZD_ ?_
  refine A_ ?_
  refine ret_ (own := []) (fro := [19]) (h := .tcons _ _ _ _ [] [] [19] [] (mat_box hl rfl rfl) (.tcons _ _ _ _ [] [] [] [] (mat_eq rfl rfl) .tnil))
end Go.Proofs.YtabkpoklihkifaaDoor

/- gcm: a pad. Printed by wp.py. -/
namespace Go.Proofs.YtabkpoklihkifaaDoor
open Go Go.RowKit
set_option linter.unusedVariables false
set_option linter.unusedSimpArgs false
set_option maxRecDepth 100000
set_option maxHeartbeats 4000000
attribute [local irreducible] inR VC RG VCn sq inS lq nq jq Wk rq tmI tmS ofI byS tmE addE ofE byE sealB kxK T0 B0

/-- A nonce and a number, as a block. -/
def c12 (non : List UInt8) : List UInt8 := List.take 16 (List.take 12 non) ++ List.drop (min (min 12 non.length) 16) (List.replicate 16 0)
def ctr (non : List UInt8) (n : UInt32) : List UInt8 := ((((c12 non).set 12 (shr32 n 24).toUInt8).set 13 (shr32 n 16).toUInt8).set 14 (shr32 n 8).toUInt8).set 15 n.toUInt8
theorem ctr_def (non : List UInt8) (n : UInt32) : (((((List.take 16 (List.take 12 non) ++ List.drop (min (min 12 non.length) 16) (List.replicate 16 (0 : UInt8)) : List UInt8).set 12 (shr32 n 24).toUInt8).set 13 (shr32 n 16).toUInt8).set 14 (shr32 n 8).toUInt8).set 15 n.toUInt8) = ctr non n := rfl
theorem c12_eq {non : List UInt8} (h : non.length = 12) : c12 non = non ++ [0, 0, 0, 0] := by
  unfold c12
  rw [List.take_of_length_le (by rw [List.length_take]; omega), List.take_of_length_le (by omega), h]
  rfl
theorem ctr_len {non : List UInt8} (h : non.length = 12) (n : UInt32) : (ctr non n).length = 16 := by
  unfold ctr
  rw [List.length_set, List.length_set, List.length_set, List.length_set, c12_eq h, List.length_append, h]
  rfl
def padB (T K non : List UInt8) (n : UInt32) : List UInt8 := sealB T K (ctr non n)
namespace Upad_fc
theorem U : type_of% (@drop_rep UInt8) ∧ type_of% (@drop_rep D) ∧ type_of% (@List.take_zero UInt8) ∧ type_of% (@List.take_zero D) ∧ type_of% (@List.length_set D) := ⟨(@drop_rep UInt8), (@drop_rep D), (@List.take_zero UInt8), (@List.take_zero D), (@List.length_set D)⟩
end Upad_fc
open Upad_fc
theorem pad_fc (T B K h non : List UInt8) (n : UInt32) (hh : h.length = 16) (hn : non.length = 12) : FC Tryd.prog GE 28 [.rpf 0 0 17 1 (boxF T B K h), .aggb non, .u32 n] (.aggb (padB T K non n)) none := by
  refine fic_ 32 ti_eq gpE Tryd.func28 (fun C hE hm hP hrc hrn => ?_)
  refine A_ ?_
  rw [hn]
  refine A_ ?_
  rw [ctr_def]
  have hl := ctr_len hn n
  unfold padB
  generalize ctr non n = c at *
  have es := bseal_fc T B K c hl
  unfold keyD at es
  have hs := sealB_len T K c
  generalize sealB T K c = r at *
  first | refine O_ ?_ | refine OD_ hm ?_
  refine G_ 5 hE ?_
  rw [show List.take 16 c = c from List.take_of_length_le (by omega)]
  refine rc_ hE hP (es) Tryd.func7 ?_
  refine G_ 200 hE ?_
  first | refine rz ?_ | refine ZD_ ?_
  rw [ap_drop (l := List.replicate 16 0) hs]
  refine A_ ?_
  have hr : List.take 16 r = r := List.take_of_length_le (by omega)
  have hz : D.aggb (List.take 16 (List.drop 0 r)) = D.aggb r := by rw [List.drop_zero, hr]
  refine retc_ (own := []) (fro := []) (hd := hz)

end Go.Proofs.YtabkpoklihkifaaDoor

/- gcm: bytes that are hidden. Printed by wp.py. -/
namespace Go.Proofs.YtabkpoklihkifaaDoor
open Go Go.RowKit
set_option linter.unusedVariables false
set_option linter.unusedSimpArgs false
set_option maxRecDepth 100000
set_option maxHeartbeats 4000000
attribute [local irreducible] inR VC RG VCn sq inS lq nq jq Wk rq tmI tmS ofI byS tmE addE ofE byE sealB kxK T0 B0 padB

/-- Some bytes from a place on, put together with others. -/
def xo (p L : List UInt8) (a : Nat) : Nat → List UInt8
  | 0 => L
  | i + 1 => (xo p L a i).set (a + i) (gb (xo p L a i) (a + i) ^^^ gb p i)
theorem xo_s (p L : List UInt8) (a i : Nat) : (xo p L a i).set (a + i) (gb (xo p L a i) (a + i) ^^^ gb p i) = xo p L a (i + 1) := rfl
theorem xo_len (p L : List UInt8) (a i : Nat) : (xo p L a i).length = L.length := by
  induction i with
  | zero => rfl
  | succ i ih => rw [← xo_s, List.length_set, ih]
/-- Piece by piece. -/
structure Tu where
  l : List UInt8
  n : Nat
def tuN (P : Nat → List UInt8) (s : Tu) (k : Nat) : Tu := ⟨xo (P s.n) s.l (k * 16) (min 16 (s.l.length - k * 16)), s.n + 1⟩
def tuS (P : Nat → List UInt8) (l : List UInt8) (ks : List Nat) : Tu := ks.foldl (tuN P) ⟨l, 0⟩
theorem tuS_s (P : Nat → List UInt8) (l : List UInt8) (ks : List Nat) (k : Nat) : tuS P l (ks ++ [k]) = tuN P (tuS P l ks) k := by
  unfold tuS
  rw [List.foldl_append]
  rfl
theorem tu_ok (P : Nat → List UInt8) : ∀ (ks : List Nat) (s : Tu), (ks.foldl (tuN P) s).l.length = s.l.length ∧ (ks.foldl (tuN P) s).n = s.n + ks.length
  | [], s => ⟨rfl, rfl⟩
  | k :: ks, s => by
    obtain ⟨h1, h2⟩ := tu_ok P ks (tuN P s k)
    rw [List.foldl_cons, h1, h2]
    exact ⟨xo_len _ _ _ _, by show s.n + 1 + ks.length = s.n + (ks.length + 1); omega⟩
theorem tuS_ok (P : Nat → List UInt8) (l : List UInt8) (ks : List Nat) : (tuS P l ks).l.length = l.length ∧ (tuS P l ks).n = ks.length := by
  obtain ⟨h1, h2⟩ := tu_ok P ks ⟨l, 0⟩
  exact ⟨h1, h2.trans (Nat.zero_add _)⟩
/-- The number of a pad. -/
def pn (n : Nat) : UInt32 := UInt32.ofNat (2 + n)
theorem pn_0 : pn 0 = 2 := rfl
theorem pn_s (n : Nat) : pn n + 1 = pn (n + 1) := by
  exact (UInt32.ofNat_add (2 + n) 1).symm
def padN (T K non : List UInt8) (n : Nat) : List UInt8 := padB T K non (pn n)
theorem padN_len (T K non : List UInt8) (n : Nat) : (padN T K non n).length = 16 := by unfold padN padB; exact sealB_len _ _ _
def turnB (T K non l : List UInt8) : List UInt8 := (tuS (padN T K non) l (List.range (pcN l.length 16))).l

namespace Uturn_fc
theorem U : type_of% (@drop_rep UInt8) ∧ type_of% (@drop_rep D) ∧ type_of% (@List.take_zero UInt8) ∧ type_of% (@List.take_zero D) ∧ type_of% (@List.length_set D) := ⟨(@drop_rep UInt8), (@drop_rep D), (@List.take_zero UInt8), (@List.take_zero D), (@List.length_set D)⟩
end Uturn_fc
open Uturn_fc
theorem turn_fc (T B K h non l : List UInt8) (hh : h.length = 16) (hn : non.length = 12) (hl : l.length ≤ 1000000) : FC Tryd.prog GE 20 [.rpf 0 0 17 1 (boxF T B K h), .aggb non, .rob l] (.ownb (turnB T K non l)) none := by
  refine fi_ 39 [6] ti_eq gpE Tryd.func20 (fun C hE hm hP hrc hrn => ?_)
  refine A_ ?_
  rw [hn]
  first | refine O_ ?_ | refine OD_ hm ?_
  refine G_ 1 hE ?_
  refine rc_ hE hP (clone_fc GE l (by omega)) Tryd.func27 ?_
  refine G_ 200 hE ?_
  first | refine rz ?_ | refine ZD_ ?_
  refine A_ ?_
  first | refine O_ ?_ | refine OD_ hm ?_
  refine G_ 1 hE ?_
  refine CHO_ (m := 15) hE hP ?_
  refine G_ 200 hE ?_
  first | refine rz ?_ | refine ZD_ ?_
  refine A_ ?_
  refine vfo (dk := []) (sl := [(15, .chunko 26 13 1 0 l.length 16), (3, .ptr 3 1 0), (4, .ptr 4 1 0), (7, .sl 13 1 0 l.length), (8, .ptr 8 1 0)]) hE hrn (by rw [hP]; exact chunk_ok) ?_ ?_ ?_ rfl rfl (fun ks => [(13, ⟨⟨1, 1, l.length⟩, some (.bytes (tuS (padN T K non) l ks).l)⟩), (8, ⟨⟨1, 1, 1⟩, some (.cells [.u32 (pn (tuS (padN T K non) l ks).n)])⟩), (3, ⟨⟨1, 1, 1⟩, some (.cells [.rpf 0 0 17 1 (boxF T B K h)])⟩), (4, ⟨⟨1, 1, 12⟩, some (.bytes non)⟩)]) (fun _ => True) ?_ trivial rfl (fun _ => ⟨rfl, rfl⟩) [3, 4, 8, 13] ?_ ?_ ?_ ?_
  · omega
  · omega
  · omega
  · rw [show tuS (padN T K non) l [] = ⟨l, 0⟩ from rfl]
    simp only [pn_0]
    exact wk_ hrc
  · exact look_nm rfl
  · exact fun d v h => absurd h (hrc d v)
  · intro C' pre k hE hP1 hkn _ hk hpre
    have hP := hP1.trans hP
    have hm : C'.P.follows .mixedOrders = true := by rw [hP]; kernel_rfl
    clear hrc hrn
    rw [tuS_s]
    obtain ⟨hs1, hs2⟩ := tuS_ok (padN T K non) l pre
    generalize tuS (padN T K non) l pre = S at *
    obtain ⟨L, N⟩ := S
    simp only [tuN] at hs1 hs2 ⊢
    rw [hs1]
    obtain ⟨m, hm0⟩ : ∃ m, m = min 16 (l.length - k * 16) := ⟨_, rfl⟩
    have hm1 : m ≤ 16 := by omega
    have hm2 : k * 16 + m ≤ l.length := by omega
    rw [← hm0, Nat.zero_add]
    clear hm0
    have hpl := padN_len T K non N
    have ep := pad_fc T B K h non (pn N) hh hn
    rw [show padB T K non (pn N) = padN T K non N from rfl] at ep
    generalize padN T K non N = p at *
    refine A_ ?_
    first | refine O_ ?_ | refine OD_ hm ?_
    refine G_ 3 hE ?_
    rw [show List.take 12 non = non from List.take_of_length_le (by omega)]
    refine rc_ hE hP (ep) Tryd.func28 ?_
    refine G_ 200 hE ?_
    first | refine rz ?_ | refine ZD_ ?_
    rw [ap_drop (l := List.replicate 16 0) hpl]
    refine A_ ?_
    refine vl (fun i : Nat => ⟨[(8, .ptr 8 1 0), (9, .sl 13 1 (k * 16) m), (10, .ptr 10 1 0), (22, .int .i64 m), (23, .int .i64 i)], [(10, ⟨⟨1, 1, 16⟩, some (.bytes p)⟩), (13, ⟨⟨1, 1, l.length⟩, some (.bytes (xo p L (k * 16) i))⟩), (8, ⟨⟨1, 1, 1⟩, some (.cells [.u32 (pn N)])⟩), (3, ⟨⟨1, 1, 1⟩, some (.cells [.rpf 0 0 17 1 (boxF T B K h)])⟩), (4, ⟨⟨1, 1, 12⟩, some (.bytes non)⟩)], []⟩) (fun i => i ≤ m) (fun i => m - i) 0 ?_ (Nat.zero_le _) (fun i hi => ?_)
    · refine wk_ofk rfl ?_ ?_ (fun d v h o ho => by have := hkn d v h o ho; simp at this ⊢; try omega) <;> (repeat' apply And.intro) <;> first | exact trivial | rfl | (intro o ho; simp [D.nm, nmL, ctNm, nmL_ownb, nmL_rob, nmL_str, nmL_cz] at ho <;> fail) | (intro o ho; simp [D.nm, nmL, ctNm, nmL_ownb, nmL_rob, nmL_str, nmL_cz] at ho ⊢ <;> omega) | (simp only [Z, U, Int.cast_ofNat_Int, UInt8.reduceToNat, UInt32.reduceToNat, Nat.reduceAdd, Nat.reduceMul, Nat.reduceSub, Nat.reduceLeDiff, Int.reduceToNat, Int.reducePow, Nat.reducePow] <;> fail) | (simp [St.ob, St.slot, look] <;> fail) | (simp [St.ob, St.slot, look]; omega) | simp [St.ob, St.slot, look] | skip
    have hxl := xo_len p L (k * 16) i
    by_cases hin : i < m
    · have hX := xo_s p L (k * 16) i
      repeat' (first | refine A1_ ?_ | refine C_ hE (fun hc => ?_) (fun hc => ?_) <;> (try (exfalso; omega)))
      rw [hX]
      refine lq_n (i + 1) ?_ (by omega) (by omega)
      refine wk_ofk rfl ?_ ?_ (fun d v h o ho => by have := hkn d v h o ho; simp at this ⊢; try omega) <;> (repeat' apply And.intro) <;> first | exact trivial | rfl | (intro o ho; simp [D.nm, nmL, ctNm, nmL_ownb, nmL_rob, nmL_str, nmL_cz] at ho <;> fail) | (intro o ho; simp [D.nm, nmL, ctNm, nmL_ownb, nmL_rob, nmL_str, nmL_cz] at ho ⊢ <;> omega) | (simp only [Z, U, Int.cast_ofNat_Int, UInt8.reduceToNat, UInt32.reduceToNat, Nat.reduceAdd, Nat.reduceMul, Nat.reduceSub, Nat.reduceLeDiff, Int.reduceToNat, Int.reducePow, Nat.reducePow] <;> fail) | (simp [St.ob, St.slot, look] <;> fail) | (simp [St.ob, St.slot, look]; omega) | simp [St.ob, St.slot, look] | skip
    · obtain rfl : i = m := by omega
      repeat' (first | refine A1_ ?_ | refine C_ hE (fun hc => ?_) (fun hc => ?_) <;> (try (exfalso; omega)))
      rw [show UInt32.ofNat 1 = 1 from rfl, pn_s]
      refine rq_n ?_ trivial
      refine wk_ofk rfl ?_ ?_ (fun d v h o ho => by have := hkn d v h o ho; simp at this ⊢; try omega) <;> (repeat' apply And.intro) <;> first | exact trivial | rfl | (intro o ho; simp [D.nm, nmL, ctNm, nmL_ownb, nmL_rob, nmL_str, nmL_cz] at ho <;> fail) | (intro o ho; simp [D.nm, nmL, ctNm, nmL_ownb, nmL_rob, nmL_str, nmL_cz] at ho ⊢ <;> omega) | (simp only [Z, U, Int.cast_ofNat_Int, UInt8.reduceToNat, UInt32.reduceToNat, Nat.reduceAdd, Nat.reduceMul, Nat.reduceSub, Nat.reduceLeDiff, Int.reduceToNat, Int.reducePow, Nat.reducePow] <;> fail) | (simp [St.ob, St.slot, look] <;> fail) | (simp [St.ob, St.slot, look]; omega) | simp [St.ob, St.slot, look] | skip
  · intro dk' _
    refine in_n ?_
    refine sq_n ?_
    obtain ⟨hs1, hs2⟩ := tuS_ok (padN T K non) l (List.range (pcN l.length 16))
    unfold turnB
    generalize tuS (padN T K non) l (List.range (pcN l.length 16)) = S at *
    obtain ⟨L, N⟩ := S
    simp only at hs1 hs2 ⊢
    refine A_ ?_
    exact ret_
end Go.Proofs.YtabkpoklihkifaaDoor

/- gcm: the tag. Printed by wp.py. -/
namespace Go.Proofs.YtabkpoklihkifaaDoor
open Go Go.RowKit
set_option linter.unusedVariables false
set_option linter.unusedSimpArgs false
set_option maxRecDepth 100000
set_option maxHeartbeats 4000000
attribute [local irreducible] inR VC RG VCn sq inS lq nq jq Wk rq tmI tmS ofI byS tmE addE ofE byE sealB kxK T0 B0 padB foldB

/-- Both counters, as a block. -/
def cntB (a b : Nat) : List UInt8 := byE ⟨(a : Int) * 8, (b : Int) * 8⟩
def tagB (T K h non hid bes : List UInt8) : List UInt8 := xorB (foldB h [bes, hid, cntB bes.length hid.length]) (padB T K non 1)

theorem box_h {T B K h : List UInt8} (hh : h.length = 16) : List.map D.toU8 (List.map (fun i => boxF T B K h 0 (1 + i)) (List.range 16)) = h := by
  rw [List.map_map]
  refine List.ext_getElem (by simp [hh]) fun i h1 h2 => ?_
  rw [List.getElem_map, List.getElem_range]
  show D.toU8 (boxF T B K h 0 (1 + i)) = _
  unfold boxF
  rw [if_neg (by omega), Nat.add_sub_cancel_left]
  show gb h i = _
  unfold gb
  rw [List.getD_eq_getElem?_getD, List.getElem?_eq_getElem h2]
  rfl
namespace Utag_fc
theorem U : type_of% (@drop_rep UInt8) ∧ type_of% (@drop_rep D) ∧ type_of% (@List.take_zero UInt8) ∧ type_of% (@List.take_zero D) ∧ type_of% (@List.length_set D) := ⟨(@drop_rep UInt8), (@drop_rep D), (@List.take_zero UInt8), (@List.take_zero D), (@List.length_set D)⟩
end Utag_fc
open Utag_fc
theorem tag_fc (T B K h non hid bes : List UInt8) (hh : h.length = 16) (hn : non.length = 12) (h1 : hid.length ≤ 1000000) (h2 : bes.length ≤ 1000000) : FC Tryd.prog GE 21 [.rpf 0 0 17 1 (boxF T B K h), .aggb non, .rob hid, .rob bes] (.aggb (tagB T K h non hid bes)) none := by
  refine fic_ 40 ti_eq gpE Tryd.func21 (fun C hE hm hP hrc hrn => ?_)
  refine A_ ?_
  rw [hn]
  first | refine O_ ?_ | refine OD_ hm ?_
  refine G_ 3 hE ?_
  rw [w64_nat bes.length (by omega)]
  refine G_ 4 hE ?_
  rw [w64_nat hid.length (by omega)]
  refine G_ 2 hE ?_
  have e5 := eby_fc ⟨(bes.length : Int) * 8, (hid.length : Int) * 8⟩
  rw [show byE ⟨(bes.length : Int) * 8, (hid.length : Int) * 8⟩ = cntB bes.length hid.length from rfl] at e5
  simp only at e5
  have hcl : (cntB bes.length hid.length).length = 16 := byE_len _
  unfold tagB
  generalize cntB bes.length hid.length = c at *
  refine rc_ hE hP (e5) Tryd.func19 ?_
  refine G_ 200 hE ?_
  first | refine rz ?_ | refine ZD_ ?_
  rw [ap_drop (l := List.replicate 16 0) hcl]
  refine A_ ?_
  first | refine O_ ?_ | refine OD_ hm ?_
  refine G_ 4 hE ?_
  rw [box_h hh]
  have ef := fold_fc h [bes, hid, c] hh (fun i => by
    match i with
    | 0 => exact h2
    | 1 => exact h1
    | 2 => exact Nat.le_trans (Nat.le_of_eq hcl) (by decide)
    | n + 3 => exact Nat.zero_le _) (show 3 ≤ 1000000 by decide)
  have hfl := foldB_len h [bes, hid, c]
  generalize hF : foldB h [bes, hid, c] = t at *
  refine G_ 4 hE ?_
  refine rc_ hE hP (ef) Tryd.func8 ?_
  refine G_ 200 hE ?_
  first | refine rz ?_ | refine ZD_ ?_
  rw [ap_drop (l := List.replicate 16 0) hfl]
  have ep := pad_fc T B K h non 1 hh hn
  have hpl : (padB T K non 1).length = 16 := by unfold padB; exact sealB_len _ _ _
  generalize padB T K non 1 = p at *
  refine A_ ?_
  first | refine O_ ?_ | refine OD_ hm ?_
  refine G_ 2 hE ?_
  rw [show List.take 12 non = non from List.take_of_length_le (by omega)]
  refine rc_ hE hP (ep) Tryd.func28 ?_
  refine G_ 200 hE ?_
  first | refine rz ?_ | refine ZD_ ?_
  rw [ap_drop (l := List.replicate 16 0) hpl]
  refine A_ ?_
  have eo := eof_fc t hfl
  have eq := eof_fc p hpl
  unfold elD at eo eq
  have ea := eadd_fc (ofE t) (ofE p)
  unfold elD at ea
  have ey := eby_fc (addE (ofE t) (ofE p))
  rw [by_add] at ey
  have hx := xorB_len t p
  generalize xorB t p = r at *
  generalize addE (ofE t) (ofE p) = z at *
  generalize ofE t = x at *
  generalize ofE p = y at *
  first | refine O_ ?_ | refine OD_ hm ?_
  refine G_ 1 hE ?_
  refine rc_ hE hP (eo) Tryd.func15 ?_
  refine G_ 1 hE ?_
  refine rc_ hE hP (eq) Tryd.func15 ?_
  refine rc_ hE hP (ea) Tryd.func17 ?_
  refine rc_ hE hP (ey) Tryd.func19 ?_
  refine G_ 200 hE ?_
  first | refine rz ?_ | refine ZD_ ?_
  rw [ap_drop (l := List.replicate 16 0) hx]
  refine A_ ?_
  have hr : List.take 16 r = r := List.take_of_length_le (by omega)
  have hz : D.aggb (List.take 16 (List.drop 0 r)) = D.aggb r := by rw [List.drop_zero, hr]
  refine retc_ (own := []) (fro := []) (hd := hz)
end Go.Proofs.YtabkpoklihkifaaDoor

/- gcm: Seal. Printed by wp.py. -/
namespace Go.Proofs.YtabkpoklihkifaaDoor
open Go Go.RowKit
set_option linter.unusedVariables false
set_option linter.unusedSimpArgs false
set_option maxRecDepth 100000
set_option maxHeartbeats 4000000
attribute [local irreducible] inR VC RG VCn sq inS lq nq jq Wk rq tmI tmS ofI byS tmE addE ofE byE sealB kxK T0 B0 padB foldB tagB turnB

theorem turnB_len (T K non l : List UInt8) : (turnB T K non l).length = l.length := by unfold turnB; exact (tuS_ok _ _ _).1
theorem tagB_len (T K h non hid bes : List UInt8) : (tagB T K h non hid bes).length = 16 := by unfold tagB; exact xorB_len _ _

namespace Ugseal_fc
theorem U : type_of% (@drop_rep UInt8) ∧ type_of% (@drop_rep D) ∧ type_of% (@List.take_zero UInt8) ∧ type_of% (@List.take_zero D) ∧ type_of% (@List.length_set D) := ⟨(@drop_rep UInt8), (@drop_rep D), (@List.take_zero UInt8), (@List.take_zero D), (@List.length_set D)⟩
end Ugseal_fc
open Ugseal_fc
theorem gseal_fc (T B K h non l bes : List UInt8) (hh : h.length = 16) (hn : non.length = 12) (hl : l.length ≤ 1000000) (h2 : bes.length ≤ 1000000) : FC Tryd.prog GE 9 [.rpf 0 0 17 1 (boxF T B K h), .aggb non, .rob l, .rob bes] (.ownb (turnB T K non l ++ tagB T K h non (turnB T K non l) bes)) none := by
  refine fi_ 25 [8] ti_eq gpE Tryd.func9 (fun C hE hm hP hrc hrn => ?_)
  have hc := turnB_len T K non l
  have et := turn_fc T B K h non l hh hn hl
  generalize turnB T K non l = c at *
  have eg := tag_fc T B K h non c bes hh hn (by omega) h2
  have ht := tagB_len T K h non c bes
  generalize tagB T K h non c bes = t at *
  refine A_ ?_
  rw [hn]
  refine A_ ?_
  first | refine O_ ?_ | refine OD_ hm ?_
  refine G_ 3 hE ?_
  rw [show List.take 12 non = non from List.take_of_length_le (by omega)]
  refine rc_ hE hP (et) Tryd.func20 ?_
  refine G_ 200 hE ?_
  first | refine rz ?_ | refine ZD_ ?_
  refine A_ ?_
  first | refine O_ ?_ | refine OD_ hm ?_
  refine G_ 4 hE ?_
  rw [show List.take 12 non = non from List.take_of_length_le (by omega)]
  refine rc_ hE hP (eg) Tryd.func21 ?_
  refine G_ 200 hE ?_
  first | refine rz ?_ | refine ZD_ ?_
  rw [ap_drop (l := List.replicate 16 0) ht]
  refine A_ ?_
  rw [show List.take 16 t = t from List.take_of_length_le (by omega)]
  exact ret_ (h := by (first | exact Mat.tnil | apply mat1 rfl | apply mat2 rfl rfl | apply mat3 rfl rfl rfl) <;> (repeat' (first | exact .tnil | exact mat_eq rfl rfl | apply mat_i | apply mat_bl | apply mat_u8 | apply mat_u32 | apply mat_st | apply mat_ab | apply mat_rbe | apply mat_nrb | apply mat_nob | exact mat_nos rfl rfl | exact mat_rf0 rfl | exact mat_trob | (apply mat_rf rfl rfl rfl) | refine mat_slf (e := 1) rfl rfl rfl rfl ?_ ?_ ?_ (by first | exact fr0_rob _ | exact fr0_str _ | exact fr0_str _) | (apply mat_sls rfl rfl rfl rfl rfl rfl) | exact mat_pf rfl rfl rfl rfl rfl | (apply mat_s0 rfl rfl rfl; (· first | rfl | (simp <;> fail) | (simp; omega) | omega)) | (apply mat_r0 rfl rfl rfl; (· first | rfl | (simp <;> fail) | (simp; omega) | omega)) | apply mat_sl rfl rfl rfl | apply mat_rb rfl rfl rfl | apply mat_p rfl rfl rfl rfl | apply mc)) <;> (first | rfl | assumption | (simp only [Z, U, Int.cast_ofNat_Int, UInt8.reduceToNat, UInt32.reduceToNat, Nat.reduceAdd, Nat.reduceMul, Nat.reduceSub, Nat.reduceLeDiff, Int.reduceToNat, Int.reducePow, Nat.reducePow] <;> fail) | (simp <;> fail) | omega | (simp [List.take_of_length_le] <;> fail) | (simp [ht])))
end Go.Proofs.YtabkpoklihkifaaDoor

/- Boxes by hand, in plain Lean: the turned counters, the hidden bytes, the counts. -/
namespace Go.Proofs.YtabkpoklihkifaaDoor
open Go Go.RowKit
set_option linter.unusedVariables false
set_option linter.unusedSimpArgs false
set_option maxRecDepth 100000
theorem c12_set {non : List UInt8} (h : non.length = 12) : (((c12 non).set 12 0).set 13 0).set 14 0 = c12 non := by
  rw [c12_eq h, List.set_append_right _ _ (by omega), List.set_append_right _ _ (by omega), List.set_append_right _ _ (by omega), h]
  rfl
theorem shr_small : ∀ q, q ≤ 20 → (shr32 (pn q) 24).toUInt8 = 0 ∧ (shr32 (pn q) 16).toUInt8 = 0 ∧ (shr32 (pn q) 8).toUInt8 = 0 ∧ (pn q).toUInt8 = b8 ((2 + q : Nat) : Int) := by decide
theorem ctr_pn {non : List UInt8} (h : non.length = 12) {q : Nat} (hq : q ≤ 20) : ctr non (pn q) = (c12 non).set 15 (b8 ((2 + q : Nat) : Int)) := by
  obtain ⟨h1, h2, h3, h4⟩ := shr_small q hq
  unfold ctr
  rw [h1, h2, h3, h4, c12_set h]
theorem ctr_1 {non : List UInt8} (h : non.length = 12) : ctr non 1 = (c12 non).set 15 1 := by
  unfold ctr
  rw [show (shr32 1 24).toUInt8 = 0 by decide, show (shr32 1 16).toUInt8 = 0 by decide, show (shr32 1 8).toUInt8 = 0 by decide, show (1 : UInt32).toUInt8 = 1 by decide, c12_set h]
theorem padN_eq {T K non : List UInt8} (h : non.length = 12) {q : Nat} (hq : q ≤ 20) : padN T K non q = sealB T K ((c12 non).set 15 (b8 ((2 + q : Nat) : Int))) := by
  unfold padN padB
  rw [ctr_pn h hq]
/-- The hidden byte at a place. -/
def hid1 (P : Nat → List UInt8) (l : List UInt8) (i : Nat) : UInt8 := gb l i ^^^ gb (P (i / 16)) (i % 16)
theorem xo_fill (P : Nat → List UInt8) (l : List UInt8) (m : Nat) : ∀ i, i ≤ 16 → m * 16 + i ≤ l.length → xo (P m) (fillA (hid1 P l) l (m * 16)) (m * 16) i = fillA (hid1 P l) l (m * 16 + i)
  | 0, _, _ => rfl
  | i + 1, h1, h2 => by
    rw [← xo_s, xo_fill P l m i (by omega) (by omega), fillA_get _ _ _ _ (Nat.le_refl _), fillA_s _ _ _ (by omega) (by unfold hid1; rw [show (m * 16 + i) / 16 = m by omega, show (m * 16 + i) % 16 = i by omega])]
    rfl
theorem tu_fill (P : Nat → List UInt8) (l : List UInt8) : ∀ m, m ≤ pcN l.length 16 → tuS P l (List.range m) = ⟨fillA (hid1 P l) l (min (m * 16) l.length), m⟩
  | 0, _ => by rw [Nat.zero_mul, Nat.zero_min, fillA_0]; rfl
  | m + 1, h => by
    have hlt : m * 16 < l.length := by unfold pcN at h; omega
    rw [List.range_succ, tuS_s, tu_fill P l m (by omega), Nat.min_eq_left (by omega)]
    unfold tuN
    simp only
    rw [fillA_len _ _ _ (by omega), xo_fill P l m _ (by omega) (by omega), show m * 16 + min 16 (l.length - m * 16) = min ((m + 1) * 16) l.length by omega]
/-- What is hidden, byte by byte. -/
def hidI (P : Nat → List UInt8) (l : List UInt8) (i : Nat) : List UInt8 := (List.range i).map (hid1 P l)
theorem hidI_len (P : Nat → List UInt8) (l : List UInt8) (i : Nat) : (hidI P l i).length = i := by simp [hidI]
theorem hidI_s (P : Nat → List UInt8) (l : List UInt8) (i : Nat) : hidI P l i ++ [hid1 P l i] = hidI P l (i + 1) := by
  unfold hidI
  rw [List.range_succ, List.map_append]
  rfl
theorem turn_hid (T K non l : List UInt8) : turnB T K non l = hidI (padN T K non) l l.length := by
  unfold turnB
  rw [tu_fill _ _ _ (Nat.le_refl _), show min (pcN l.length 16 * 16) l.length = l.length by unfold pcN; omega]
  exact fillA_n _ _
theorem cnt_eq : ∀ n : Nat, n ≤ 100 → ((((List.replicate 16 (0 : UInt8)).set 7 48).set 14 (b8 ((n : Int) * 8 / 256))).set 15 (b8 ((n : Int) * 8))) = cntB 6 n := by decide +kernel
theorem c12_def (non : List UInt8) : List.take 16 (List.take 12 non) ++ List.drop (min (min 12 non.length) 16) (List.replicate 16 (0 : UInt8)) = c12 non := rfl
theorem c12_len {non : List UInt8} (h : non.length = 12) : (c12 non).length = 16 := by rw [c12_eq h, List.length_append, h]; rfl
/-- The counter and the pad, before byte i. -/
def cI (non : List UInt8) (i : Nat) : List UInt8 := if i = 0 then c12 non else (c12 non).set 15 (b8 ((2 + (i - 1) / 16 : Nat) : Int))
def pI (T K non : List UInt8) (i : Nat) : List UInt8 := if i = 0 then List.replicate 16 0 else padN T K non ((i - 1) / 16)
theorem cI_len {non : List UInt8} (h : non.length = 12) (i : Nat) : (cI non i).length = 16 := by
  unfold cI
  split
  · exact c12_len h
  · rw [List.length_set, c12_len h]
theorem pI_len (T K non : List UInt8) (i : Nat) : (pI T K non i).length = 16 := by
  unfold pI
  split
  · rfl
  · exact padN_len _ _ _ _
theorem cI_set (non : List UInt8) (i : Nat) (h : i % 16 = 0) : (cI non i).set 15 (b8 ((2 + i / 16 : Nat) : Int)) = cI non (i + 1) := by
  unfold cI
  rw [if_neg (show ¬ i + 1 = 0 by omega), Nat.add_sub_cancel]
  split
  · rfl
  · rw [List.set_set]
theorem cI_s (non : List UInt8) (i : Nat) (h : i % 16 ≠ 0) : cI non (i + 1) = cI non i := by
  unfold cI
  rw [if_neg (show ¬ i + 1 = 0 by omega), if_neg (show ¬ i = 0 by omega), show (i + 1 - 1) / 16 = (i - 1) / 16 by omega]
theorem pI_set {T K non : List UInt8} (hn : non.length = 12) (i : Nat) (h : i ≤ 300) : sealB T K (cI non (i + 1)) = pI T K non (i + 1) := by
  unfold cI pI
  rw [if_neg (show ¬ i + 1 = 0 by omega), if_neg (show ¬ i + 1 = 0 by omega), padN_eq hn (by omega)]
theorem pI_s (T K non : List UInt8) (i : Nat) (h : i % 16 ≠ 0) : pI T K non (i + 1) = pI T K non i := by
  unfold pI
  rw [if_neg (show ¬ i + 1 = 0 by omega), if_neg (show ¬ i = 0 by omega), show (i + 1 - 1) / 16 = (i - 1) / 16 by omega]
theorem hid1_at (T K non P : List UInt8) (i : Nat) : gb P i ^^^ gb (pI T K non (i + 1)) (i % 16) = hid1 (padN T K non) P i := by
  unfold pI hid1
  rw [if_neg (show ¬ i + 1 = 0 by omega), Nat.add_sub_cancel]
theorem cI_1 {non : List UInt8} (h : non.length = 12) (i : Nat) : (cI non i).set 15 1 = ctr non 1 := by
  rw [ctr_1 h]
  unfold cI
  split
  · rfl
  · rw [List.set_set]
def xI (t p : List UInt8) (i : Nat) : List UInt8 := (List.range i).map fun j => gb t j ^^^ gb p j
theorem xI_len (t p : List UInt8) (i : Nat) : (xI t p i).length = i := by simp [xI]
theorem xI_s (t p : List UInt8) (i : Nat) : xI t p i ++ [gb t i ^^^ gb p i] = xI t p (i + 1) := by
  unfold xI
  rw [List.range_succ, List.map_append]
  rfl
theorem xI_16 (t p : List UInt8) : xI t p 16 = xorB t p := rfl
theorem padB_1 (T K non : List UInt8) : sealB T K (ctr non 1) = padB T K non 1 := rfl
end Go.Proofs.YtabkpoklihkifaaDoor
