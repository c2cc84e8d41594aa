/- Words of 32 bits as values, and what the operations on them give, over any program. -/
import Derived.Test.YtpmbdppppnbmnaaBase
namespace Go.Proofs.Ytpmbdppppnbmnaa
open Go.RowKit
set_option linter.unusedVariables false
set_option linter.unusedSimpArgs false

def u32v (x : UInt32) : Value := .int .u32 (x.toNat : Int)
def shl32 (x : UInt32) (n : Nat) : UInt32 := UInt32.ofNat (x.toNat <<< n)
def shr32 (x : UInt32) (n : Nat) : UInt32 := UInt32.ofNat (x.toNat >>> n)
theorem u32_lt (x : UInt32) : x.toNat < 4294967296 := x.toNat_lt
theorem wrap_u32 (n : Int) : IntKind.u32.wrap n = n % 4294967296 := by simp [IntKind.wrap, IntKind.bits, IntKind.signed]
theorem ofInt_u32 (a : Nat) (ha : a < 4294967296) : (BitVec.ofInt 32 (a : Int)).toNat = a := by
  rw [BitVec.ofInt_natCast, BitVec.toNat_ofNat]; exact Nat.mod_eq_of_lt (by omega)

theorem bin_add32 (t : TypeId) (a b : UInt32) : binOp .add t (u32v a) (u32v b) = pure (u32v (a + b)) := by
  unfold u32v
  rw [binOp_add]
  simp only [Op.intArith, wrap_u32]
  congr 2
theorem bin_xor32 (t : TypeId) (a b : UInt32) : binOp .xor t (u32v a) (u32v b) = pure (u32v (a ^^^ b)) := by
  have ha := u32_lt a
  have hb := u32_lt b
  unfold u32v
  rw [binOp_xor]
  simp only [Op.intBits, bits]
  congr 2
  show IntKind.u32.wrap ((BitVec.ofInt 32 (a.toNat : Int) ^^^ BitVec.ofInt 32 (b.toNat : Int)).toNat : Int) = _
  have h : (a ^^^ b).toNat < 4294967296 := u32_lt _
  rw [BitVec.toNat_xor, ofInt_u32 _ ha, ofInt_u32 _ hb, wrap_u32, UInt32.toNat_xor] at *
  omega
theorem bin_and32 (t : TypeId) (a b : UInt32) : binOp .and t (u32v a) (u32v b) = pure (u32v (a &&& b)) := by
  have ha := u32_lt a
  have hb := u32_lt b
  unfold u32v
  rw [binOp_and]
  simp only [Op.intBits, bits]
  congr 2
  show IntKind.u32.wrap ((BitVec.ofInt 32 (a.toNat : Int) &&& BitVec.ofInt 32 (b.toNat : Int)).toNat : Int) = _
  have h : (a &&& b).toNat < 4294967296 := u32_lt _
  rw [BitVec.toNat_and, ofInt_u32 _ ha, ofInt_u32 _ hb, wrap_u32, UInt32.toNat_and] at *
  omega
theorem bin_or32 (t : TypeId) (a b : UInt32) : binOp .or t (u32v a) (u32v b) = pure (u32v (a ||| b)) := by
  have ha := u32_lt a
  have hb := u32_lt b
  unfold u32v
  rw [binOp_or]
  simp only [Op.intBits, bits]
  congr 2
  show IntKind.u32.wrap ((BitVec.ofInt 32 (a.toNat : Int) ||| BitVec.ofInt 32 (b.toNat : Int)).toNat : Int) = _
  have h : (a ||| b).toNat < 4294967296 := u32_lt _
  rw [BitVec.toNat_or, ofInt_u32 _ ha, ofInt_u32 _ hb, wrap_u32, UInt32.toNat_or] at *
  omega
theorem bin_shl32 (t : TypeId) (a : UInt32) (k : IntKind) (n : Int) (h : 0 ≤ n) : binOp .shl t (u32v a) (.int k n) = pure (u32v (shl32 a n.toNat)) := by
  unfold u32v
  rw [binOp_shl, shift_shl_any .u32 k _ n h]
  congr 2
  have hb : IntKind.u32.bits = 32 := rfl
  rw [wrap_u32, hb, shl32, UInt32.toNat_ofNat', Nat.shiftLeft_eq]
  have e : ((a.toNat : Int) * 2 ^ min n.toNat 32) = ((a.toNat * 2 ^ min n.toNat 32 : Nat) : Int) := by simp
  rw [e]
  by_cases hn : n.toNat ≤ 32
  · rw [Nat.min_eq_left hn]
    omega
  · rw [Nat.min_eq_right (by omega)]
    have h1 : a.toNat * 2 ^ n.toNat % 2 ^ 32 = 0 := by
      have : (2 : Nat) ^ n.toNat = 2 ^ (n.toNat - 32) * 2 ^ 32 := by rw [← Nat.pow_add]; congr 1; omega
      rw [this, ← Nat.mul_assoc, Nat.mul_mod_left]
    have h2 : a.toNat * 2 ^ 32 % 4294967296 = 0 := by rw [show (2 : Nat) ^ 32 = 4294967296 from rfl, Nat.mul_mod_left]
    rw [h1]
    omega
theorem bin_shr32 (t : TypeId) (a : UInt32) (k : IntKind) (n : Int) (h : 0 ≤ n) : binOp .shr t (u32v a) (.int k n) = pure (u32v (shr32 a n.toNat)) := by
  have ha := u32_lt a
  unfold u32v
  rw [binOp_shr, shift_shr_any .u32 k _ n h]
  congr 2
  have hb : IntKind.u32.bits = 32 := rfl
  rw [hb, shr32, UInt32.toNat_ofNat', Nat.shiftRight_eq_div_pow]
  have hlt : a.toNat / 2 ^ n.toNat < 2 ^ 32 := Nat.lt_of_le_of_lt (Nat.div_le_self _ _) ha
  rw [Nat.mod_eq_of_lt hlt]
  have e : ((a.toNat : Int) / 2 ^ min n.toNat 32) = ((a.toNat / 2 ^ min n.toNat 32 : Nat) : Int) := by simp
  rw [e]
  by_cases hn : n.toNat ≤ 32
  · rw [Nat.min_eq_left hn]
  · rw [Nat.min_eq_right (by omega)]
    have h1 : a.toNat / 2 ^ 32 = 0 := Nat.div_eq_of_lt ha
    have h2 : a.toNat / 2 ^ n.toNat = 0 := Nat.div_eq_of_lt (Nat.lt_of_lt_of_le ha (by rw [show 4294967296 = 2 ^ 32 from rfl]; exact Nat.pow_le_pow_right (by omega) (by omega)))
    rw [h1, h2]
theorem run_u32_of_u8 {P : Program} {w : World} (src dst : TypeId) (b : UInt8) (hs : P.underlying src = some (.int .u8)) (hd : P.underlying dst = some (.int .u32)) : (convert src dst (u8 b)).run P w = .ok (u32v b.toUInt32) w := by
  have hb := b.toNat_lt
  have h2 : IntKind.u32.wrap (b.toNat : Int) = b.toNat := by rw [wrap_u32]; omega
  unfold u8 u32v
  simp [convert, run_underlying hd, run_underlying hs, Conv.intToInt, h2]
theorem run_u8_of_u32 {P : Program} {w : World} (src dst : TypeId) (x : UInt32) (hs : P.underlying src = some (.int .u32)) (hd : P.underlying dst = some (.int .u8)) : (convert src dst (u32v x)).run P w = .ok (u8 x.toUInt8) w := by
  unfold u8 u32v
  simp [convert, run_underlying hd, run_underlying hs, Conv.intToInt, IntKind.wrap_u8]
theorem u32_lit (n : Nat) (h : n < 4294967296) : Value.int .u32 (n : Int) = u32v (UInt32.ofNat n) := by
  unfold u32v
  rw [UInt32.toNat_ofNat', Nat.mod_eq_of_lt (by omega)]
theorem u32v_one (x : UInt32) : (u32v x).oneCell' = true := rfl
theorem u32v_cells (x : UInt32) : (u32v x).cells = #[u32v x] := rfl
theorem run_store_u32 {P : Program} {w : World} (g o : Nat) (x : UInt32) (hc : (w.cell? ⟨g, o, none⟩).isSome = true) (hf : w.frozen? ⟨g, o, none⟩ = false) :
    (storeCells ⟨g, o, none⟩ [u32v x] 0).run P w = .ok () (w.setCell ⟨g, o, none⟩ (u32v x)) := by
  obtain ⟨v, hv⟩ := Option.isSome_iff_exists.1 hc
  simp only [storeCells, Sem.run_bind]
  rw [add_lit, Nat.add_zero, run_store P w _ _ _ (u32v_one x), hv]
  simp [hf]
theorem run_storeVar_u32 {P : Program} {w : World} (t : TypeId) (g o : Nat) (x : UInt32) (ht : (P.info? t).map (·.size) = some 1) (hc : (w.cell? ⟨g, o, none⟩).isSome = true) (hf : w.frozen? ⟨g, o, none⟩ = false) :
    (storeVar t ⟨g, o, none⟩ (u32v x)).run P w = .ok () (w.setCell ⟨g, o, none⟩ (u32v x)) := by
  obtain ⟨i, hi, hs⟩ : ∃ i, P.info? t = some i ∧ i.size = 1 := by
    rcases h : P.info? t with _ | i
    · rw [h] at ht; cases ht
    · rw [h] at ht; exact ⟨i, rfl, by simpa using ht⟩
  have := run_store_u32 (P := P) g o x hc hf
  simp [storeVar, sizeOf, typeInfo, hi, hs, u32v_cells, this]
theorem wpList_build_to {P : Program} {ops : Array Oper} {rest : List Oper} {o : Oper} {a : Act} {w : World} {Q : Exit → Act → World → Prop} (hg : o.guard = none) (t : TypeId) (parts : Array (Nat × Operand)) (ho : o.op = .build t parts) (vs : Array Value)
    (hv : P.built t (parts.map fun (i, x) => (i, a.eval x)).toList = some vs)
    (h : wpList P ops Q rest (a.put o.dst (.agg vs)) w) : wpList P ops Q (o :: rest) a w :=
  wpList_build hg t parts ho (by rw [hv]; rfl) (by rw [hv]; exact h)
theorem below_setRow {B g : Nat} {a w : World} (h : Below B a w) (hg : B ≤ g) (cs : Array Value) : Below B a (w.setRow g cs) :=
  ⟨h.os, h.tape, h.output, by simpa using h.size, fun i hi => (setRow_other w g i _ (by omega)).trans (h.block i hi)⟩
end Go.Proofs.Ytpmbdppppnbmnaa
