/- What constants, and operations on numbers, bytes and strings, read as. Over any program. -/
import Derived.Test.YtpmbdppppnbmnaaRep
namespace Go.Proofs.Ytpmbdppppnbmnaa
open Go Go.RowKit
set_option linter.unusedVariables false
set_option linter.unusedSimpArgs false

def isU8v : Value → Bool
  | .int .u8 n => decide (0 ≤ n) && decide (n ≤ 255)
  | _ => false
def byteOf : Value → UInt8
  | .int .u8 n => b8 n
  | _ => 0
def ofCell : Value → D
  | .bool b => .bool b
  | .int .u8 n => if 0 ≤ n ∧ n ≤ 255 then .u8 (b8 n) else .bot
  | .int .u32 n => if 0 ≤ n ∧ n < 4294967296 then .u32 (UInt32.ofNat n.toNat) else .bot
  | .int k n => .int k n
  | .string s => .str s.data.toList
  | .pointer none => .nilP
  | .slice none 0 0 => .nilS
  | .nilFunc => .nilF
  | _ => .bot
def ofVal : Value → D
  | .agg cs => if cs.toList.all isU8v then .aggb (cs.toList.map byteOf) else .agg (cs.toList.map ofCell)
  | v => ofCell v

section
variable {w : World} {S : Nat → Prop} {ρ : Nat → Pl} {H : Nat → Sh}
theorem isU8v_of {v : Value} (h : isU8v v = true) : v = u8 (byteOf v) := by
  unfold isU8v at h
  split at h
  · rename_i n
    simp only [Bool.and_eq_true, decide_eq_true_eq] at h
    exact (u8_b8 h.1 h.2).symm
  · cases h
theorem ofCell_ok (v : Value) : RV w S ρ H (ofCell v) v [] := by
  unfold ofCell
  split
  · exact .bool _
  · split
    · rename_i n h
      rw [← u8_b8 h.1 h.2]
      exact .u8 _
    · exact .bot _
  · split
    · rename_i n h
      have e : Value.int IntKind.u32 n = u32v (UInt32.ofNat n.toNat) := by
        rw [← u32_lit _ (by omega)]
        congr 1
        omega
      rw [e]
      exact .u32 _
    · exact .bot _
  · exact .int _ _
  · exact .str _
  · exact .nilP
  · exact .nilS
  · exact .nilF
  · exact .bot _
theorem flat_nil {n : Nat} : (List.replicate n ([] : List Nat)).flatten = [] := by
  induction n with
  | zero => rfl
  | succ n ih => rw [List.replicate_succ, List.flatten_cons, ih]; rfl
theorem RV.agg0 {cs : List D} {vs : List Value} (hv : vs.length = cs.length) (hr : ∀ (i : Nat) (c : D) (u : Value), cs[i]? = some c → vs[i]? = some u → RV w S ρ H c u []) : RV w S ρ H (.agg cs) (.agg vs.toArray) [] := by
  refine .agg cs vs (List.replicate cs.length []) [] hv (by simp) flat_nil.symm ?_
  intro i c u f h1 h2 h3
  rw [List.getElem?_replicate] at h3
  split at h3
  · injection h3 with h3
    subst h3
    exact hr i c u h1 h2
  · cases h3
theorem RV.tup0 {cs : List D} {vs : List Value} (hv : vs.length = cs.length) (hr : ∀ (i : Nat) (c : D) (u : Value), cs[i]? = some c → vs[i]? = some u → RV w S ρ H c u []) : RV w S ρ H (.tup cs) (.tuple vs.toArray) [] := by
  refine .tup cs vs (List.replicate cs.length []) [] hv (by simp) flat_nil.symm ?_
  intro i c u f h1 h2 h3
  rw [List.getElem?_replicate] at h3
  split at h3
  · injection h3 with h3
    subst h3
    exact hr i c u h1 h2
  · cases h3
theorem aggb_of {cs : List Value} (h : cs.all isU8v = true) : cs = u8s (cs.map byteOf) := by
  induction cs with
  | nil => rfl
  | cons c r ih =>
    simp only [List.all_cons, Bool.and_eq_true] at h
    rw [List.map_cons]
    show c :: r = u8 (byteOf c) :: u8s (r.map byteOf)
    rw [← ih h.2, ← isU8v_of h.1]
theorem ofVal_ok (v : Value) : RV w S ρ H (ofVal v) v [] := by
  unfold ofVal
  split
  · rename_i cs
    split
    · rename_i h
      have e := aggb_of h
      have e2 : cs = (u8s (cs.toList.map byteOf)).toArray := by
        apply Array.ext'
        exact e
      generalize cs.toList.map byteOf = l at *
      subst e2
      exact .aggb _
    · refine RV.agg0 (vs := cs.toList) (by simp) ?_
      intro i c u h1 h2
      rw [List.getElem?_map, h2] at h1
      injection h1 with h1
      subst h1
      exact ofCell_ok u
  · exact ofCell_ok v
end

/-- The types, as far as they are looked at. -/
inductive Ty where
  | none
  | bool
  | int (k : IntKind)
  | str
  | slice (e : Nat)
  | arr (n e : Nat)
  | struct (fs : List (Nat × Nat))
  | ptr (e : Nat)
def tyOf : Option TypeDesc → Ty
  | some .bool => .bool
  | some (.int k) => .int k
  | some .string => .str
  | some (.slice e) => .slice e
  | some (.array n e) => .arr n e
  | some (.struct fs) => .struct (fs.toList.map fun f => (f.offset, f.type))
  | some (.pointer e) => .ptr e
  | _ => .none
structure TI where
  ty : Ty
  sz : Nat
  by_ : Nat
  zero : D
  eqg : Bool
def tiOf (P : Program) (t : TypeId) : TI :=
  match P.info? t with
  | some i => ⟨tyOf (P.underlying t), i.size, i.bytes, (match i.zero with | some z => ofVal z | none => .bot), P.eqGuardType P.depth t⟩
  | none => ⟨.none, 0, 0, .bot, P.eqGuardType P.depth t⟩

theorem tyOf_slice {d : Option TypeDesc} {e : Nat} (h : tyOf d = .slice e) : d = some (.slice e) := by
  unfold tyOf at h; split at h <;> first | (cases h; done) | (injection h with h; subst h; rfl)
theorem tyOf_arr {d : Option TypeDesc} {n e : Nat} (h : tyOf d = .arr n e) : d = some (.array n e) := by
  unfold tyOf at h; split at h <;> first | (cases h; done) | (injection h with h1 h2; subst h1; subst h2; rfl)
theorem tyOf_int {d : Option TypeDesc} {k : IntKind} (h : tyOf d = .int k) : d = some (.int k) := by
  unfold tyOf at h; split at h <;> first | (cases h; done) | (injection h with h; subst h; rfl)
theorem tyOf_str {d : Option TypeDesc} (h : tyOf d = .str) : d = some .string := by
  unfold tyOf at h; split at h <;> first | (cases h; done) | rfl
theorem tyOf_bool {d : Option TypeDesc} (h : tyOf d = .bool) : d = some .bool := by
  unfold tyOf at h; split at h <;> first | (cases h; done) | rfl
theorem tyOf_ptr {d : Option TypeDesc} {e : Nat} (h : tyOf d = .ptr e) : d = some (.pointer e) := by
  unfold tyOf at h; split at h <;> first | (cases h; done) | (injection h with h; subst h; rfl)
theorem tyOf_struct {d : Option TypeDesc} {fs : List (Nat × Nat)} (h : tyOf d = .struct fs) : ∃ fds, d = some (.struct fds) ∧ fds.toList.map (fun f => (f.offset, f.type)) = fs := by
  unfold tyOf at h; split at h <;> first | (cases h; done) | (injection h with h; exact ⟨_, rfl, h⟩)

section
variable {P : Program} {t : TypeId}
theorem tiOf_ty : (tiOf P t).ty = .none ∨ ∃ i, P.info? t = some i ∧ (tiOf P t).ty = tyOf (P.underlying t) := by
  unfold tiOf
  split
  · rename_i i hi
    exact .inr ⟨i, hi, rfl⟩
  · exact .inl rfl
theorem ti_slice {e : Nat} (h : (tiOf P t).ty = .slice e) : P.underlying t = some (.slice e) := by
  rcases tiOf_ty (P := P) (t := t) with h0 | ⟨i, hi, h1⟩
  · rw [h0] at h; cases h
  · exact tyOf_slice (h1.symm.trans h)
theorem ti_arr {n e : Nat} (h : (tiOf P t).ty = .arr n e) : P.underlying t = some (.array n e) := by
  rcases tiOf_ty (P := P) (t := t) with h0 | ⟨i, hi, h1⟩
  · rw [h0] at h; cases h
  · exact tyOf_arr (h1.symm.trans h)
theorem ti_int {k : IntKind} (h : (tiOf P t).ty = .int k) : P.underlying t = some (.int k) := by
  rcases tiOf_ty (P := P) (t := t) with h0 | ⟨i, hi, h1⟩
  · rw [h0] at h; cases h
  · exact tyOf_int (h1.symm.trans h)
theorem ti_str (h : (tiOf P t).ty = .str) : P.underlying t = some .string := by
  rcases tiOf_ty (P := P) (t := t) with h0 | ⟨i, hi, h1⟩
  · rw [h0] at h; cases h
  · exact tyOf_str (h1.symm.trans h)
theorem ti_bool (h : (tiOf P t).ty = .bool) : P.underlying t = some .bool := by
  rcases tiOf_ty (P := P) (t := t) with h0 | ⟨i, hi, h1⟩
  · rw [h0] at h; cases h
  · exact tyOf_bool (h1.symm.trans h)
theorem ti_ptr {e : Nat} (h : (tiOf P t).ty = .ptr e) : P.underlying t = some (.pointer e) := by
  rcases tiOf_ty (P := P) (t := t) with h0 | ⟨i, hi, h1⟩
  · rw [h0] at h; cases h
  · exact tyOf_ptr (h1.symm.trans h)
theorem ti_struct {fs : List (Nat × Nat)} (h : (tiOf P t).ty = .struct fs) : ∃ fds, P.underlying t = some (.struct fds) ∧ fds.toList.map (fun f => (f.offset, f.type)) = fs := by
  rcases tiOf_ty (P := P) (t := t) with h0 | ⟨i, hi, h1⟩
  · rw [h0] at h; cases h
  · exact tyOf_struct (h1.symm.trans h)
theorem ti_info (h : (tiOf P t).ty ≠ .none) : ∃ i, P.info? t = some i ∧ i.size = (tiOf P t).sz ∧ i.bytes = (tiOf P t).by_ := by
  unfold tiOf at *
  split at h
  · rename_i i hi
    exact ⟨i, hi, rfl, rfl⟩
  · exact absurd rfl h
theorem ti_zero (h : (tiOf P t).zero ≠ .bot) : ∃ i z, P.info? t = some i ∧ i.size = (tiOf P t).sz ∧ i.bytes = (tiOf P t).by_ ∧ i.zero = some z ∧ ofVal z = (tiOf P t).zero := by
  unfold tiOf at *
  split at h
  · rename_i i hi
    rcases hz : i.zero with _ | z
    · rw [hz] at h; exact absurd rfl h
    · exact ⟨i, z, hi, rfl, rfl, hz, by simp only [hz]⟩
  · exact absurd rfl h
theorem ti_eqg : (tiOf P t).eqg = P.eqGuardType P.depth t := by unfold tiOf; split <;> rfl
theorem run_sizeOf {w : World} {n : Nat} {i : TypeInfo} (hi : P.info? t = some i) (hn : i.size = n) : (sizeOf t).run P w = .ok n w := by
  simp [sizeOf, typeInfo, hi, hn]
end

/-! Bytes. -/
def shl8 (x : UInt8) (n : Nat) : UInt8 := UInt8.ofNat (x.toNat <<< n)
def shr8 (x : UInt8) (n : Nat) : UInt8 := UInt8.ofNat (x.toNat >>> n)
theorem u8_lt (x : UInt8) : x.toNat < 256 := x.toNat_lt
theorem wrap_u8 (n : Int) : IntKind.u8.wrap n = n % 256 := by simp [IntKind.wrap, IntKind.bits, IntKind.signed]
theorem ofInt_u8 (a : Nat) (ha : a < 256) : (BitVec.ofInt 8 (a : Int)).toNat = a := by
  rw [BitVec.ofInt_natCast, BitVec.toNat_ofNat]; exact Nat.mod_eq_of_lt (by omega)
theorem bin_add8 (t : TypeId) (a b : UInt8) : binOp .add t (u8 a) (u8 b) = pure (u8 (a + b)) := by
  unfold u8
  rw [binOp_add]
  simp only [Op.intArith, wrap_u8]
  congr 2
theorem bin_sub8 (t : TypeId) (a b : UInt8) : binOp .sub t (u8 a) (u8 b) = pure (u8 (a - b)) := by
  have ha := u8_lt a
  have hb := u8_lt b
  unfold u8
  rw [binOp_sub]
  simp only [Op.intArith, wrap_u8]
  congr 2
  rw [UInt8.toNat_sub]
  omega
theorem bin_mul8 (t : TypeId) (a b : UInt8) : binOp .mul t (u8 a) (u8 b) = pure (u8 (a * b)) := by
  unfold u8
  rw [binOp_mul]
  simp only [Op.intArith, wrap_u8]
  congr 2
theorem bin_quo8 (t : TypeId) (a b : UInt8) (h : 0 < b.toNat) : binOp .quo t (u8 a) (u8 b) = pure (u8 (a / b)) := by
  have ha := u8_lt a
  have hd : a.toNat / b.toNat < 256 := Nat.lt_of_le_of_lt (Nat.div_le_self _ _) ha
  unfold u8
  rw [binOp_quo]
  have hb : ¬ (b.toNat : Int) = 0 := by omega
  have e : ((a.toNat : Int)).tdiv (b.toNat : Int) = ((a.toNat / b.toNat : Nat) : Int) := by rw [Int.tdiv_eq_ediv_of_nonneg (by omega)]; exact (Int.natCast_ediv _ _).symm
  simp only [Op.intDiv, if_neg hb, e, wrap_u8]
  congr 2
  rw [UInt8.toNat_div]
  generalize a.toNat / b.toNat = q at *
  generalize ((a.toNat : Int)).tdiv (b.toNat : Int) = r at *
  omega
theorem bin_rem8 (t : TypeId) (a b : UInt8) (h : 0 < b.toNat) : binOp .rem t (u8 a) (u8 b) = pure (u8 (a % b)) := by
  have ha := u8_lt a
  unfold u8
  rw [binOp_rem]
  have hb : ¬ (b.toNat : Int) = 0 := by omega
  have e : ((a.toNat : Int)).tmod (b.toNat : Int) = ((a.toNat % b.toNat : Nat) : Int) := by rw [Int.tmod_eq_emod_of_nonneg (by omega)]; exact (Int.natCast_emod _ _).symm
  simp only [Op.intDiv, if_neg hb, e]
  congr 2
theorem bin_xor8 (t : TypeId) (a b : UInt8) : binOp .xor t (u8 a) (u8 b) = pure (u8 (a ^^^ b)) := by
  have ha := u8_lt a
  have hb := u8_lt b
  unfold u8
  rw [binOp_xor]
  simp only [Op.intBits, bits]
  congr 2
  show IntKind.u8.wrap ((BitVec.ofInt 8 (a.toNat : Int) ^^^ BitVec.ofInt 8 (b.toNat : Int)).toNat : Int) = _
  have h : (a ^^^ b).toNat < 256 := u8_lt _
  rw [BitVec.toNat_xor, ofInt_u8 _ ha, ofInt_u8 _ hb, wrap_u8, UInt8.toNat_xor] at *
  omega
theorem bin_and8 (t : TypeId) (a b : UInt8) : binOp .and t (u8 a) (u8 b) = pure (u8 (a &&& b)) := by
  have ha := u8_lt a
  have hb := u8_lt b
  unfold u8
  rw [binOp_and]
  simp only [Op.intBits, bits]
  congr 2
  show IntKind.u8.wrap ((BitVec.ofInt 8 (a.toNat : Int) &&& BitVec.ofInt 8 (b.toNat : Int)).toNat : Int) = _
  have h : (a &&& b).toNat < 256 := u8_lt _
  rw [BitVec.toNat_and, ofInt_u8 _ ha, ofInt_u8 _ hb, wrap_u8, UInt8.toNat_and] at *
  omega
theorem bin_or8 (t : TypeId) (a b : UInt8) : binOp .or t (u8 a) (u8 b) = pure (u8 (a ||| b)) := by
  have ha := u8_lt a
  have hb := u8_lt b
  unfold u8
  rw [binOp_or]
  simp only [Op.intBits, bits]
  congr 2
  show IntKind.u8.wrap ((BitVec.ofInt 8 (a.toNat : Int) ||| BitVec.ofInt 8 (b.toNat : Int)).toNat : Int) = _
  have h : (a ||| b).toNat < 256 := u8_lt _
  rw [BitVec.toNat_or, ofInt_u8 _ ha, ofInt_u8 _ hb, wrap_u8, UInt8.toNat_or] at *
  omega
theorem bin_andNot8 (t : TypeId) (a b : UInt8) : binOp .andNot t (u8 a) (u8 b) = pure (u8 (a &&& ~~~b)) := by
  have ha := u8_lt a
  have hb := u8_lt b
  unfold u8
  rw [binOp_andNot]
  simp only [Op.intBits, bits]
  congr 2
  show IntKind.u8.wrap ((BitVec.ofInt 8 (a.toNat : Int) &&& ~~~(BitVec.ofInt 8 (b.toNat : Int))).toNat : Int) = _
  have h : (a &&& ~~~b).toNat < 256 := u8_lt _
  have e1 : BitVec.ofInt 8 (a.toNat : Int) = a.toBitVec := by apply BitVec.eq_of_toNat_eq; rw [ofInt_u8 _ ha]; rfl
  have e2 : BitVec.ofInt 8 (b.toNat : Int) = b.toBitVec := by apply BitVec.eq_of_toNat_eq; rw [ofInt_u8 _ hb]; rfl
  have e3 : (a &&& ~~~b).toNat = (a.toBitVec &&& ~~~b.toBitVec).toNat := rfl
  rw [e1, e2, ← e3, wrap_u8]
  omega
theorem bin_shl8 (t : TypeId) (a : UInt8) (k : IntKind) (n : Int) (h : 0 ≤ n) : binOp .shl t (u8 a) (.int k n) = pure (u8 (shl8 a n.toNat)) := by
  unfold u8
  rw [binOp_shl, shift_shl_any .u8 k _ n h]
  congr 2
  have hb : IntKind.u8.bits = 8 := rfl
  rw [wrap_u8, hb, shl8, UInt8.toNat_ofNat', Nat.shiftLeft_eq]
  have e : ((a.toNat : Int) * 2 ^ min n.toNat 8) = ((a.toNat * 2 ^ min n.toNat 8 : Nat) : Int) := by simp
  rw [e]
  by_cases hn : n.toNat ≤ 8
  · rw [Nat.min_eq_left hn]
    omega
  · rw [Nat.min_eq_right (by omega)]
    have h1 : a.toNat * 2 ^ n.toNat % 2 ^ 8 = 0 := by
      have : (2 : Nat) ^ n.toNat = 2 ^ (n.toNat - 8) * 2 ^ 8 := by rw [← Nat.pow_add]; congr 1; omega
      rw [this, ← Nat.mul_assoc, Nat.mul_mod_left]
    have h2 : a.toNat * 2 ^ 8 % 256 = 0 := by rw [show (2 : Nat) ^ 8 = 256 from rfl, Nat.mul_mod_left]
    rw [h1]
    omega
theorem bin_shr8 (t : TypeId) (a : UInt8) (k : IntKind) (n : Int) (h : 0 ≤ n) : binOp .shr t (u8 a) (.int k n) = pure (u8 (shr8 a n.toNat)) := by
  have ha := u8_lt a
  unfold u8
  rw [binOp_shr, shift_shr_any .u8 k _ n h]
  congr 2
  have hb : IntKind.u8.bits = 8 := rfl
  rw [hb, shr8, UInt8.toNat_ofNat', Nat.shiftRight_eq_div_pow]
  have hlt : a.toNat / 2 ^ n.toNat < 2 ^ 8 := Nat.lt_of_le_of_lt (Nat.div_le_self _ _) ha
  rw [Nat.mod_eq_of_lt hlt]
  have e : ((a.toNat : Int) / 2 ^ min n.toNat 8) = ((a.toNat / 2 ^ min n.toNat 8 : Nat) : Int) := by simp
  rw [e]
  by_cases hn : n.toNat ≤ 8
  · rw [Nat.min_eq_left hn]
  · rw [Nat.min_eq_right (by omega)]
    have h1 : a.toNat / 2 ^ 8 = 0 := Nat.div_eq_of_lt ha
    have h2 : a.toNat / 2 ^ n.toNat = 0 := Nat.div_eq_of_lt (Nat.lt_of_lt_of_le ha (by rw [show 256 = 2 ^ 8 from rfl]; exact Nat.pow_le_pow_right (by omega) (by omega)))
    rw [h1, h2]
theorem bin_sub32 (t : TypeId) (a b : UInt32) : binOp .sub t (u32v a) (u32v b) = pure (u32v (a - b)) := by
  have ha := u32_lt a
  have hb := u32_lt b
  unfold u32v
  rw [binOp_sub]
  simp only [Op.intArith, wrap_u32]
  congr 2
  rw [UInt32.toNat_sub]
  omega
theorem bin_mul32 (t : TypeId) (a b : UInt32) : binOp .mul t (u32v a) (u32v b) = pure (u32v (a * b)) := by
  unfold u32v
  rw [binOp_mul]
  simp only [Op.intArith, wrap_u32]
  congr 2

/-! Operations on two values. -/
def inR (k : IntKind) (n : Int) : Prop := k.min ≤ n ∧ n ≤ k.max
theorem wrap_inR (k : IntKind) (n : Int) (h : inR k n) : k.wrap n = n := by
  unfold inR IntKind.min IntKind.max at h
  unfold IntKind.wrap
  cases k <;> simp [IntKind.signed, IntKind.bits] at h ⊢ <;> omega
def cmpB (op : BinOp) (a b : Int) : Option D :=
  match op with
  | .eql => some (.bool (decide (a = b)))
  | .neq => some (.bool (!decide (a = b)))
  | .lss => some (.bool (decide (a < b)))
  | .leq => some (.bool (decide (a ≤ b)))
  | .gtr => some (.bool (decide (b < a)))
  | .geq => some (.bool (decide (b ≤ a)))
  | _ => none
def intB (op : BinOp) (k : IntKind) (a b : Int) : Option (Prop × D) :=
  match op with
  | .add => some (inR k (a + b), .int k (a + b))
  | .sub => some (inR k (a - b), .int k (a - b))
  | .mul => some (inR k (a * b), .int k (a * b))
  | .quo => some (0 ≤ a ∧ 0 < b ∧ inR k (a / b), .int k (a / b))
  | .rem => some (0 ≤ a ∧ 0 < b, .int k (a % b))
  | .and => some (True, .int k (bits .and k a b))
  | .or => some (True, .int k (bits .or k a b))
  | .xor => some (True, .int k (bits .xor k a b))
  | .andNot => some (True, .int k (bits .andNot k a b))
  | op => (cmpB op a b).map fun d => (True, d)
def byteB (op : BinOp) (a b : UInt8) : Option (Prop × D) :=
  match op with
  | .add => some (True, .u8 (a + b))
  | .sub => some (True, .u8 (a - b))
  | .mul => some (True, .u8 (a * b))
  | .and => some (True, .u8 (a &&& b))
  | .or => some (True, .u8 (a ||| b))
  | .xor => some (True, .u8 (a ^^^ b))
  | .andNot => some (True, .u8 (a &&& ~~~b))
  | .quo => some (0 < b.toNat, .u8 (a / b))
  | .rem => some (0 < b.toNat, .u8 (a % b))
  | .eql => some (True, .bool (decide (a = b)))
  | .neq => some (True, .bool (!decide (a = b)))
  | op => (cmpB op a.toNat b.toNat).map fun d => (True, d)
def wordB (op : BinOp) (a b : UInt32) : Option (Prop × D) :=
  match op with
  | .add => some (True, .u32 (a + b))
  | .sub => some (True, .u32 (a - b))
  | .mul => some (True, .u32 (a * b))
  | .and => some (True, .u32 (a &&& b))
  | .or => some (True, .u32 (a ||| b))
  | .xor => some (True, .u32 (a ^^^ b))
  | op => (cmpB op a.toNat b.toNat).map fun d => (True, d)
/-- The names are those that the answer hangs on. -/
def binD (H : Nat → Sh) (ty : Ty) (op : BinOp) (x y : D) : Option (Prop × D × List Nat) :=
  match x, y with
  | .int k a, .int k' b =>
    match op with
    | .shl => some (0 ≤ b ∧ inR k (a * 2 ^ min b.toNat k.bits), .int k (a * 2 ^ min b.toNat k.bits), [])
    | .shr => some (0 ≤ b, .int k (a / 2 ^ min b.toNat k.bits), [])
    | op => if k = k' then (intB op k a b).map fun r => (r.1, r.2, []) else none
  | .u8 a, .int _ b =>
    match op with
    | .shl => some (0 ≤ b, .u8 (shl8 a b.toNat), [])
    | .shr => some (0 ≤ b, .u8 (shr8 a b.toNat), [])
    | _ => none
  | .u32 a, .int _ b =>
    match op with
    | .shl => some (0 ≤ b, .u32 (shl32 a b.toNat), [])
    | .shr => some (0 ≤ b, .u32 (shr32 a b.toNat), [])
    | _ => none
  | .u8 a, .u8 b => (byteB op a b).map fun r => (r.1, r.2, [])
  | .u32 a, .u32 b => (wordB op a b).map fun r => (r.1, r.2, [])
  | .str a, .str b =>
    match op with
    | .add => some (a.length + b.length ≤ 9223372036854775807, .str (a ++ b), [])
    | .eql => some (True, .bool (decide (a = b)), [])
    | .neq => some (True, .bool (!decide (a = b)), [])
    | _ => none
  | .bool a, .bool b =>
    match ty, op with
    | .bool, .eql => some (True, .bool (a == b), [])
    | .bool, .neq => some (True, .bool (!(a == b)), [])
    | _, _ => none
  | .nilP, .nilP =>
    match ty, op with
    | .ptr _, .eql => some (True, .bool true, [])
    | .ptr _, .neq => some (True, .bool false, [])
    | _, _ => none
  | .nilS, .nilS =>
    match ty, op with
    | .slice _, .eql => some (True, .bool true, [])
    | .slice _, .neq => some (True, .bool false, [])
    | _, _ => none
  | .ptr o g _, .nilP =>
    match ty, op with
    | .ptr _, .eql => some (g = (H o).gen, .bool false, [o])
    | .ptr _, .neq => some (g = (H o).gen, .bool true, [o])
    | _, _ => none
  | .rop _ _, .nilP =>
    match ty, op with
    | .ptr _, .eql => some (True, .bool false, [])
    | .ptr _, .neq => some (True, .bool true, [])
    | _, _ => none
  | .rpf _ _ _ _ _, .nilP =>
    match ty, op with
    | .ptr _, .eql => some (True, .bool false, [])
    | .ptr _, .neq => some (True, .bool true, [])
    | _, _ => none
  | _, _ => none

section
variable {P : Program} {w : World} {S : Nat → Prop} {ρ : Nat → Pl} {H : Nat → Sh}
theorem inv_int {k : IntKind} {n : Int} {v : Value} {F : List Nat} (h : RV w S ρ H (.int k n) v F) : v = .int k n := by cases h; rfl
theorem inv_u8 {x : UInt8} {v : Value} {F : List Nat} (h : RV w S ρ H (.u8 x) v F) : v = u8 x := by cases h; rfl
theorem inv_u32 {x : UInt32} {v : Value} {F : List Nat} (h : RV w S ρ H (.u32 x) v F) : v = u32v x := by cases h; rfl
theorem inv_bool {b : Bool} {v : Value} {F : List Nat} (h : RV w S ρ H (.bool b) v F) : v = .bool b := by cases h; rfl
theorem inv_str {l : List UInt8} {v : Value} {F : List Nat} (h : RV w S ρ H (.str l) v F) : v = .string (str l) := by cases h; rfl
theorem inv_nilP {v : Value} {F : List Nat} (h : RV w S ρ H .nilP v F) : v = .pointer none := by cases h; rfl
theorem inv_nilS {v : Value} {F : List Nat} (h : RV w S ρ H .nilS v F) : v = .slice none 0 0 := by cases h; rfl
theorem inv_aggb {l : List UInt8} {v : Value} {F : List Nat} (h : RV w S ρ H (.aggb l) v F) : v = .agg (u8s l).toArray := by cases h; rfl
theorem inv_ptr {o g off : Nat} {v : Value} {F : List Nat} (h : RV w S ρ H (.ptr o g off) v F) (e : g = (H o).gen) : v = .pointer (some ⟨(ρ o).blk, (ρ o).base + off, none⟩) := by cases h with | ptr _ _ _ _ _ _ h => exact h e
theorem inv_sl {o g off len : Nat} {v : Value} {F : List Nat} (h : RV w S ρ H (.sl o g off len) v F) (e : g = (H o).gen) : SlAt (ρ o) (H o) off len v := by cases h with | sl _ _ _ _ _ _ _ h => exact h e
theorem bool_ite (b : Bool) : (if b then Value.bool true else Value.bool false) = .bool b := by cases b <;> rfl

theorem cmpB_ok {op : BinOp} {k : IntKind} {a b : Int} {d : D} (h : cmpB op a b = some d) (T : TypeId) : ∃ v, (binOp op T (.int k a) (.int k b)).run P w = .ok v w ∧ RV w S ρ H d v [] := by
  unfold cmpB at h
  split at h <;> first | (injection h with h; subst h) | (cases h; done)
  · exact ⟨_, by rw [binOp_eql]; rfl, by rw [show (a == b) = decide (a = b) from by rw [Bool.eq_iff_iff]; simp]; exact .bool _⟩
  · exact ⟨_, by rw [binOp_neq]; rfl, by rw [show (a != b) = !decide (a = b) from by rw [Bool.eq_iff_iff]; simp]; exact .bool _⟩
  · exact ⟨_, by rw [binOp_lss]; rfl, .bool _⟩
  · exact ⟨_, by rw [binOp_leq]; rfl, .bool _⟩
  · exact ⟨_, by rw [binOp_gtr]; rfl, .bool _⟩
  · exact ⟨_, by rw [binOp_geq]; rfl, .bool _⟩
theorem intB_ok {op : BinOp} {k : IntKind} {a b : Int} {g : Prop} {d : D} (h : intB op k a b = some (g, d)) (hg : g) (T : TypeId) : ∃ v, (binOp op T (.int k a) (.int k b)).run P w = .ok v w ∧ RV w S ρ H d v [] := by
  unfold intB at h
  split at h <;> try (injection h with h; injection h with h1 h2; subst h1; subst h2)
  · exact ⟨_, by rw [binOp_add]; rfl, by simp only [wrap_inR k _ hg]; exact .int _ _⟩
  · exact ⟨_, by rw [binOp_sub]; rfl, by simp only [wrap_inR k _ hg]; exact .int _ _⟩
  · exact ⟨_, by rw [binOp_mul]; rfl, by simp only [wrap_inR k _ hg]; exact .int _ _⟩
  · obtain ⟨h1, h2, h3⟩ := hg
    have hb : ¬ b = 0 := by omega
    have e : a.tdiv b = a / b := Int.tdiv_eq_ediv_of_nonneg h1
    exact ⟨.int k (a / b), by rw [binOp_quo]; simp only [Op.intDiv, if_neg hb, e, wrap_inR k _ h3]; rfl, .int _ _⟩
  · obtain ⟨h1, h2⟩ := hg
    have hb : ¬ b = 0 := by omega
    have e : a.tmod b = a % b := Int.tmod_eq_emod_of_nonneg h1
    exact ⟨.int k (a % b), by rw [binOp_rem]; simp only [Op.intDiv, if_neg hb, e]; rfl, .int _ _⟩
  · exact ⟨_, by rw [binOp_and]; rfl, .int _ _⟩
  · exact ⟨_, by rw [binOp_or]; rfl, .int _ _⟩
  · exact ⟨_, by rw [binOp_xor]; rfl, .int _ _⟩
  · exact ⟨_, by rw [binOp_andNot]; rfl, .int _ _⟩
  · rw [Option.map_eq_some_iff] at h
    obtain ⟨d', h1, h2⟩ := h
    injection h2 with h2 h3
    subst h3
    exact cmpB_ok h1 T
theorem byteB_ok {op : BinOp} {a b : UInt8} {g : Prop} {d : D} (h : byteB op a b = some (g, d)) (hg : g) (T : TypeId) : ∃ v, (binOp op T (u8 a) (u8 b)).run P w = .ok v w ∧ RV w S ρ H d v [] := by
  unfold byteB at h
  split at h <;> try (injection h with h; injection h with h1 h2; subst h1; subst h2)
  · exact ⟨_, by rw [bin_add8]; rfl, .u8 _⟩
  · exact ⟨_, by rw [bin_sub8]; rfl, .u8 _⟩
  · exact ⟨_, by rw [bin_mul8]; rfl, .u8 _⟩
  · exact ⟨_, by rw [bin_and8]; rfl, .u8 _⟩
  · exact ⟨_, by rw [bin_or8]; rfl, .u8 _⟩
  · exact ⟨_, by rw [bin_xor8]; rfl, .u8 _⟩
  · exact ⟨_, by rw [bin_andNot8]; rfl, .u8 _⟩
  · exact ⟨_, by rw [bin_quo8 _ _ _ hg]; rfl, .u8 _⟩
  · exact ⟨_, by rw [bin_rem8 _ _ _ hg]; rfl, .u8 _⟩
  · refine ⟨_, by unfold Proofs.Ytpmbdppppnbmnaa.u8; rw [binOp_eql]; rfl, ?_⟩
    have e : ((a.toNat : Int) == (b.toNat : Int)) = decide (a = b) := by
      have h1 : ((a.toNat : Int) = (b.toNat : Int)) ↔ a = b := ⟨fun h => UInt8.toNat_inj.1 (by omega), fun h => by rw [h]⟩
      rw [Bool.eq_iff_iff]; simp [h1]
    rw [e]
    exact .bool _
  · refine ⟨_, by unfold Proofs.Ytpmbdppppnbmnaa.u8; rw [binOp_neq]; rfl, ?_⟩
    have e : ((a.toNat : Int) != (b.toNat : Int)) = !decide (a = b) := by
      have h1 : ((a.toNat : Int) = (b.toNat : Int)) ↔ a = b := ⟨fun h => UInt8.toNat_inj.1 (by omega), fun h => by rw [h]⟩
      rw [Bool.eq_iff_iff]; simp [h1]
    rw [e]
    exact .bool _
  · rw [Option.map_eq_some_iff] at h
    obtain ⟨d', h1, h2⟩ := h
    injection h2 with h2 h3
    subst h3
    exact cmpB_ok h1 T
theorem wordB_ok {op : BinOp} {a b : UInt32} {g : Prop} {d : D} (h : wordB op a b = some (g, d)) (T : TypeId) : ∃ v, (binOp op T (u32v a) (u32v b)).run P w = .ok v w ∧ RV w S ρ H d v [] := by
  unfold wordB at h
  split at h <;> try (injection h with h; injection h with h1 h2; subst h1; subst h2)
  · exact ⟨_, by rw [bin_add32]; rfl, .u32 _⟩
  · exact ⟨_, by rw [bin_sub32]; rfl, .u32 _⟩
  · exact ⟨_, by rw [bin_mul32]; rfl, .u32 _⟩
  · exact ⟨_, by rw [bin_and32]; rfl, .u32 _⟩
  · exact ⟨_, by rw [bin_or32]; rfl, .u32 _⟩
  · exact ⟨_, by rw [bin_xor32]; rfl, .u32 _⟩
  · rw [Option.map_eq_some_iff] at h
    obtain ⟨d', h1, h2⟩ := h
    injection h2 with h2 h3
    subst h3
    exact cmpB_ok h1 T
theorem bin_str (op : BinOp) (T : TypeId) (a b : ByteArray) : (binOp op T (.string a) (.string b)).run P w = (Op.stringOp op a b).run P w := by cases op <;> rfl

theorem under_ptr {t e : TypeId} (h : P.underlying t = some (.pointer e)) : P.underlying t = some (.pointer (P.pointee t)) := by
  simp [Program.pointee, h]

theorem binD_ok {op : BinOp} {T : TypeId} {x y : D} {g : Prop} {d : D} {R : List Nat} (h : binD H (tiOf P T).ty op x y = some (g, d, R)) (hg : g) {vx vy : Value} (hx : RV w S ρ H x vx []) (hy : RV w S ρ H y vy []) :
    ∃ v, (binOp op T vx vy).run P w = .ok v w ∧ RV w S ρ H d v [] := by
  unfold binD at h
  split at h
  · obtain rfl := inv_int hx
    obtain rfl := inv_int hy
    split at h
    · injection h with h; injection h with h1 h2; injection h2 with h2 h3; subst h1; subst h2
      obtain ⟨h1, h2⟩ := hg
      rename_i k a k' b _
      refine ⟨.int k (a * 2 ^ min b.toNat k.bits), ?_, .int _ _⟩
      have : ¬ b < 0 := by omega
      rw [binOp_shl]
      simp only [Op.shift, if_neg this]
      rw [wrap_inR k _ h2]
      rfl
    · injection h with h; injection h with h1 h2; injection h2 with h2 h3; subst h1; subst h2
      rename_i k a k' b _
      refine ⟨.int k (a / 2 ^ min b.toNat k.bits), ?_, .int _ _⟩
      have : ¬ b < 0 := by omega
      rw [binOp_shr]
      simp only [Op.shift, if_neg this]
      rw [Int.fdiv_eq_ediv_of_nonneg _ (Int.le_of_lt (Int.pow_pos (by decide)))]
      rfl
    · split at h
      · rename_i e
        subst e
        rw [Option.map_eq_some_iff] at h
        obtain ⟨⟨g', d'⟩, h1, h2⟩ := h
        injection h2 with h2 h3
        injection h3 with h3 h4
        subst h2; subst h3
        exact intB_ok h1 hg T
      · cases h
  · obtain rfl := inv_u8 hx
    obtain rfl := inv_int hy
    split at h <;> first | (cases h; done) | (injection h with h; injection h with h1 h2; injection h2 with h2 h3; subst h1; subst h2)
    · exact ⟨_, by rw [bin_shl8 _ _ _ _ hg]; rfl, .u8 _⟩
    · exact ⟨_, by rw [bin_shr8 _ _ _ _ hg]; rfl, .u8 _⟩
  · obtain rfl := inv_u32 hx
    obtain rfl := inv_int hy
    split at h <;> first | (cases h; done) | (injection h with h; injection h with h1 h2; injection h2 with h2 h3; subst h1; subst h2)
    · exact ⟨_, by rw [bin_shl32 _ _ _ _ hg]; rfl, .u32 _⟩
    · exact ⟨_, by rw [bin_shr32 _ _ _ _ hg]; rfl, .u32 _⟩
  · obtain rfl := inv_u8 hx
    obtain rfl := inv_u8 hy
    rw [Option.map_eq_some_iff] at h
    obtain ⟨⟨g', d'⟩, h1, h2⟩ := h
    injection h2 with h2 h3
    injection h3 with h3 h4
    subst h3
    exact byteB_ok h1 (by first | exact hg | (subst h2; exact hg)) T
  · obtain rfl := inv_u32 hx
    obtain rfl := inv_u32 hy
    rw [Option.map_eq_some_iff] at h
    obtain ⟨⟨g', d'⟩, h1, h2⟩ := h
    injection h2 with h2 h3
    injection h3 with h3 h4
    subst h3
    exact wordB_ok h1 T
  · obtain rfl := inv_str hx
    obtain rfl := inv_str hy
    rename_i a b
    have ea : (Proofs.Ytpmbdppppnbmnaa.str a).toList = a := str_toL a
    have eb : (Proofs.Ytpmbdppppnbmnaa.str b).toList = b := str_toL b
    split at h <;> first | (cases h; done) | (injection h with h; injection h with h1 h2; injection h2 with h2 h3; subst h1; subst h2)
    · refine ⟨_, ?_, .str _⟩
      rw [bin_str, ← str_append]
      have : ¬ (((Proofs.Ytpmbdppppnbmnaa.str a).size + (Proofs.Ytpmbdppppnbmnaa.str b).size : Nat) : Int) > IntKind.i64.max := by
        rw [str_size, str_size]
        simp [IntKind.max, IntKind.signed, IntKind.bits]
        omega
      simp only [Op.stringOp, if_neg this]
      rfl
    · exact ⟨_, by rw [bin_str]; simp only [Op.stringOp]; rfl, by rw [ea, eb, show (a == b) = decide (a = b) from by rw [Bool.eq_iff_iff]; simp]; exact .bool _⟩
    · exact ⟨_, by rw [bin_str]; simp only [Op.stringOp]; rfl, by rw [ea, eb, show (a == b) = decide (a = b) from by rw [Bool.eq_iff_iff]; simp]; exact .bool _⟩
  · obtain rfl := inv_bool hx
    obtain rfl := inv_bool hy
    split at h <;> first | (cases h; done) | (injection h with h; injection h with h1 h2; injection h2 with h2 h3; subst h1; subst h2)
    · rename_i e
      exact ⟨_, run_eql_bool w T _ _ (ti_bool e), .bool _⟩
    · rename_i e
      exact ⟨_, run_neq_bool w T _ _ (ti_bool e), .bool _⟩
  · obtain rfl := inv_nilP hx
    obtain rfl := inv_nilP hy
    split at h <;> first | (cases h; done) | (injection h with h; injection h with h1 h2; injection h2 with h2 h3; subst h1; subst h2)
    · rename_i e
      exact ⟨.bool true, run_eql_pointer_nil w T _ (under_ptr (ti_ptr e)), .bool _⟩
    · rename_i e
      exact ⟨.bool false, run_neq_pointer_nil w T _ (under_ptr (ti_ptr e)), .bool _⟩
  · obtain rfl := inv_nilS hx
    obtain rfl := inv_nilS hy
    split at h <;> first | (cases h; done) | (injection h with h; injection h with h1 h2; injection h2 with h2 h3; subst h1; subst h2)
    · rename_i e
      exact ⟨.bool true, Lib.run_eql_slice_nil w T _ _ _ _ _ _ (ti_slice e), .bool _⟩
    · rename_i e
      exact ⟨.bool false, run_neq_slice_nil w T _ _ _ _ (ti_slice e), .bool _⟩
  · obtain rfl := inv_nilP hy
    split at h <;> first | (cases h; done) | (injection h with h; injection h with h1 h2; injection h2 with h2 h3; subst h1; subst h2)
    · rename_i e
      obtain rfl := inv_ptr hx hg
      exact ⟨.bool false, run_eql_pointer_nil w T _ (under_ptr (ti_ptr e)), .bool _⟩
    · rename_i e
      obtain rfl := inv_ptr hx hg
      exact ⟨.bool true, run_neq_pointer_nil w T _ (under_ptr (ti_ptr e)), .bool _⟩
  · obtain rfl := inv_nilP hy
    cases hx
    split at h <;> first | (cases h; done) | (injection h with h; injection h with h1 h2; injection h2 with h2 h3; subst h1; subst h2)
    · rename_i e
      exact ⟨.bool false, run_eql_pointer_nil w T _ (under_ptr (ti_ptr e)), .bool _⟩
    · rename_i e
      exact ⟨.bool true, run_neq_pointer_nil w T _ (under_ptr (ti_ptr e)), .bool _⟩
  · obtain rfl := inv_nilP hy
    cases hx
    split at h <;> first | (cases h; done) | (injection h with h; injection h with h1 h2; injection h2 with h2 h3; subst h1; subst h2)
    · rename_i e
      exact ⟨.bool false, run_eql_pointer_nil w T _ (under_ptr (ti_ptr e)), .bool _⟩
    · rename_i e
      exact ⟨.bool true, run_neq_pointer_nil w T _ (under_ptr (ti_ptr e)), .bool _⟩
  · cases h
end
end Go.Proofs.Ytpmbdppppnbmnaa
