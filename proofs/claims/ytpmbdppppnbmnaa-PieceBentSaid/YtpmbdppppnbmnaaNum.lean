/- Conversions between numbers, lengths, the least of two, one operand's operations, equality of arrays of bytes, the array behind a slice. Over any program. -/
import Derived.Test.YtpmbdppppnbmnaaCut
namespace Go.Proofs.Ytpmbdppppnbmnaa
open Go Go.RowKit
set_option linter.unusedVariables false
set_option linter.unusedSimpArgs false

def w32 (n : Int) : UInt32 := UInt32.ofNat (n % 4294967296).toNat
theorem u32v_w32 (n : Int) : Value.int .u32 (IntKind.u32.wrap n) = u32v (w32 n) := by
  rw [wrap_u32]
  unfold u32v w32
  congr 1
  rw [UInt32.toNat_ofNat']
  omega
/-- A number of one kind as one of another. -/
def cvN (k : IntKind) (x : D) : Option (Prop × D) :=
  match k, x with
  | .u8, .int _ n => some (True, .u8 (b8 n))
  | .u8, .u8 a => some (True, .u8 a)
  | .u8, .u32 a => some (True, .u8 a.toUInt8)
  | .u32, .int _ n => some (True, .u32 (w32 n))
  | .u32, .u8 a => some (True, .u32 a.toUInt32)
  | .u32, .u32 a => some (True, .u32 a)
  | .u64, .int .u64 n => some (inR .u64 n, .int .u64 n)
  | .u64, .int _ n => some (True, .int .u64 (IntKind.u64.wrap n))
  | .i64, .int _ n => some (inR .i64 n, .int .i64 n)
  | .i64, .u8 a => some (True, .int .i64 a.toNat)
  | .i64, .u32 a => some (True, .int .i64 a.toNat)
  | .u64, .u8 a => some (True, .int .u64 a.toNat)
  | .u64, .u32 a => some (True, .int .u64 a.toNat)
  | _, _ => none
def cvD (Ti : Nat → TI) (a b : TypeId) (x : D) : Option (Prop × D) :=
  match (Ti b).ty with
  | .int k => match (Ti a).ty with | .int _ => cvN k x | _ => none
  | .str => match (Ti a).ty, x with | .str, .str l => some (True, .str l) | _, _ => none
  | _ => none
def lenD (Ti : Nat → TI) (O : Nat → Ob) (t : TypeId) (x : D) : Option (Prop × D × List Nat) :=
  match (Ti t).ty, x with
  | .str, .str l => some (True, .int .i64 l.length, [])
  | .slice _, .rob l => some (True, .int .i64 l.length, [])
  | .slice _, .ros _ n _ => some (True, .int .i64 n, [])
  | .slice _, .rof _ n _ => some (True, .int .i64 n, [])
  | .slice _, .nilS => some (True, .int .i64 0, [])
  | .slice _, .sl o g _ len => some (g = (O o).sh.gen, .int .i64 len, [o])
  | .arr n _, _ => some (True, .int .i64 n, [])
  | _, _ => none
def minD (x y : D) : Option D :=
  match x, y with
  | .int k a, .int _ b => some (.int k (min a b))
  | _, _ => none
def unD (op : UnOp) (x : D) : Option (Prop × D) :=
  match op, x with
  | .not, .bool b => some (True, .bool (!b))
  | .neg, .int k n => some (inR k (0 - n), .int k (0 - n))
  | .xor, .u32 a => some (True, .u32 (4294967295 ^^^ a))
  | _, _ => none
def apD (Ti : Nat → TI) (O : Nat → Ob) (t : TypeId) (x : D) : Option (Prop × D × List Nat) :=
  match (Ti t).ty, x with
  | .arr n _, .sl o g off len => some ((g = (O o).sh.gen ∧ 0 < n ∧ n ≤ len), .ptr o g off, [o])
  | .arr n _, .rob l => some ((0 < n ∧ n ≤ l.length), .rpb 0 l, [])
  | _, _ => none
def eqaD (Ti : Nat → TI) (op : BinOp) (t : TypeId) (x y : D) : Option (Prop × D) :=
  match (Ti t).ty, x, y with
  | .arr n e, .aggb a, .aggb b =>
    match op with
    | .eql => some ((isBA Ti t = true ∧ (Ti t).eqg = false ∧ (Ti e).sz = 1 ∧ a.length = n ∧ b.length = n), .bool (decide (a = b)))
    | .neq => some ((isBA Ti t = true ∧ (Ti t).eqg = false ∧ (Ti e).sz = 1 ∧ a.length = n ∧ b.length = n), .bool (!decide (a = b)))
    | _ => none
  | _, _, _ => none

section
variable {P : Program} {w : World} {S : Nat → Prop} {ρ : Nat → Pl} {H : Nat → Sh}
theorem run_cv_int {a b : TypeId} {k k' k0 : IntKind} (ha : (tiOf P a).ty = .int k0) (hb : (tiOf P b).ty = .int k) (n : Int) : (convert a b (.int k' n)).run P w = .ok (.int k (k.wrap n)) w := by
  simp [convert, run_underlying (ti_int ha), run_underlying (ti_int hb), Conv.intToInt]
theorem small_i64 (n : Nat) (h : n < 4294967296) : IntKind.i64.wrap (n : Int) = n := wrap_inR _ _ (by simp [inR, IntKind.min, IntKind.max, IntKind.signed, IntKind.bits]; omega)
theorem small_u64 (n : Nat) (h : n < 4294967296) : IntKind.u64.wrap (n : Int) = n := wrap_inR _ _ (by simp [inR, IntKind.min, IntKind.max, IntKind.signed, IntKind.bits]; omega)
theorem cvN_ok {a b : TypeId} {k k0 : IntKind} (ha : (tiOf P a).ty = .int k0) (hb : (tiOf P b).ty = .int k) {x : D} {g : Prop} {d : D} (e : cvN k x = some (g, d)) (hg : g) {v : Value} (hr : RV w S ρ H x v []) :
    ∃ v', (convert a b v).run P w = .ok v' w ∧ RV w S ρ H d v' [] := by
  unfold cvN at e
  split at e <;> first | (cases e; done) | (injection e with e; injection e with e1 e2; subst e1; subst e2)
  · obtain rfl := inv_int hr
    exact ⟨_, run_cv_int ha hb _, by rw [u8_wrap]; exact .u8 _⟩
  · obtain rfl := inv_u8 hr
    rename_i x
    refine ⟨_, run_cv_int ha hb _, ?_⟩
    rw [u8_wrap, b8_of]
    exact .u8 _
  · obtain rfl := inv_u32 hr
    rename_i x
    refine ⟨_, run_cv_int ha hb _, ?_⟩
    have e : Value.int .u8 (IntKind.u8.wrap (x.toNat : Int)) = Proofs.Ytpmbdppppnbmnaa.u8 x.toUInt8 := by
      unfold Proofs.Ytpmbdppppnbmnaa.u8
      rw [wrap_u8, UInt32.toNat_toUInt8]
      congr 1
    rw [e]
    exact .u8 _
  · obtain rfl := inv_int hr
    exact ⟨_, run_cv_int ha hb _, by rw [u32v_w32]; exact .u32 _⟩
  · obtain rfl := inv_u8 hr
    rename_i x
    refine ⟨_, run_cv_int ha hb _, ?_⟩
    have e : Value.int .u32 (IntKind.u32.wrap (x.toNat : Int)) = u32v x.toUInt32 := by
      have := u8_lt x
      unfold u32v
      rw [wrap_u32, UInt8.toNat_toUInt32]
      congr 1
      omega
    rw [e]
    exact .u32 _
  · obtain rfl := inv_u32 hr
    rename_i x
    refine ⟨_, run_cv_int ha hb _, ?_⟩
    have e : Value.int .u32 (IntKind.u32.wrap (x.toNat : Int)) = u32v x := by
      have := u32_lt x
      unfold u32v
      rw [wrap_u32]
      congr 1
      omega
    rw [e]
    exact .u32 _
  · obtain rfl := inv_int hr
    exact ⟨_, run_cv_int ha hb _, by rw [wrap_inR _ _ hg]; exact .int _ _⟩
  · obtain rfl := inv_int hr
    exact ⟨_, run_cv_int ha hb _, .int _ _⟩
  · obtain rfl := inv_int hr
    exact ⟨_, run_cv_int ha hb _, by rw [wrap_inR _ _ hg]; exact .int _ _⟩
  · obtain rfl := inv_u8 hr
    rename_i x
    have := u8_lt x
    exact ⟨_, run_cv_int ha hb _, by rw [small_i64 _ (by omega)]; exact .int _ _⟩
  · obtain rfl := inv_u32 hr
    rename_i x
    have := u32_lt x
    exact ⟨_, run_cv_int ha hb _, by rw [small_i64 _ (by omega)]; exact .int _ _⟩
  · obtain rfl := inv_u8 hr
    rename_i x
    have := u8_lt x
    exact ⟨_, run_cv_int ha hb _, by rw [small_u64 _ (by omega)]; exact .int _ _⟩
  · obtain rfl := inv_u32 hr
    rename_i x
    have := u32_lt x
    exact ⟨_, run_cv_int ha hb _, by rw [small_u64 _ (by omega)]; exact .int _ _⟩
theorem cvD_ok {a b : TypeId} {x : D} {g : Prop} {d : D} (e : cvD (tiOf P) a b x = some (g, d)) (hg : g) {v : Value} (hr : RV w S ρ H x v []) :
    ∃ v', (convert a b v).run P w = .ok v' w ∧ RV w S ρ H d v' [] := by
  unfold cvD at e
  split at e
  · rename_i k hb
    split at e
    · rename_i k0 ha
      exact cvN_ok ha hb e hg hr
    · cases e
  · rename_i hb
    split at e
    · rename_i l ha
      injection e with e; injection e with e1 e2; subst e1; subst e2
      obtain rfl := inv_str hr
      exact ⟨_, by simp [convert, run_underlying (ti_str ha), run_underlying (ti_str hb)], .str _⟩
    · cases e
  · cases e
theorem minD_ok {T : Array TypeId} {ty : TypeId} {x y d : D} (e : minD x y = some d) {vx vy : Value} (hx : RV w S ρ H x vx []) (hy : RV w S ρ H y vy []) :
    ∃ v', (Builtin.min_ T ty #[vx, vy]).run P w = .ok v' w ∧ RV w S ρ H d v' [] := by
  unfold minD at e
  split at e
  · injection e with e; subst e
    obtain rfl := inv_int hx
    obtain rfl := inv_int hy
    rename_i k a k' b
    refine ⟨.int k (if b < a then b else a), by simp [Builtin.min_, Builtin.min2], ?_⟩
    have : (if b < a then b else a) = min a b := by
      rw [Int.min_def]
      split <;> split <;> omega
    rw [this]
    exact .int _ _
  · cases e
theorem unD_ok {op : UnOp} {x : D} {g : Prop} {d : D} (e : unD op x = some (g, d)) (hg : g) {v : Value} (hr : RV w S ρ H x v []) :
    ∃ v', (Op.unary op v).run P w = .ok v' w ∧ RV w S ρ H d v' [] := by
  unfold unD at e
  split at e <;> first | (cases e; done) | (injection e with e; injection e with e1 e2; subst e1; subst e2)
  · obtain rfl := inv_bool hr
    exact ⟨_, rfl, .bool _⟩
  · obtain rfl := inv_int hr
    rename_i k n
    exact ⟨.int k (0 - n), by simp only [Op.unary, Op.intArith, wrap_inR _ _ hg]; rfl, .int _ _⟩
  · obtain rfl := inv_u32 hr
    rename_i a
    refine ⟨u32v (4294967295 ^^^ a), ?_, .u32 _⟩
    have : Op.unary .xor (u32v a) = pure (u32v (4294967295 ^^^ a)) := bin_xor32 0 4294967295 a
    rw [this]
    rfl
theorem inv_rob {l : List UInt8} {v : Value} {F : List Nat} (h : RV w S ρ H (.rob l) v F) : ∃ A n cap, v = .slice A n cap ∧ RdS w S A n cap l := by
  cases h with
  | rob _ A n cap h => exact ⟨A, n, cap, rfl, h⟩
theorem inv_ros {s n : Nat} {cs : List D} {v : Value} {F : List Nat} (h : RV w S ρ H (.ros s n cs) v F) : ∃ A cap, v = .slice A n cap ∧ n ≤ cap := by
  cases h with
  | ros _ _ _ A cap b off us hl hn => exact ⟨A, cap, rfl, hn⟩

/-- Arrays of bytes are the same just where their bytes are. -/
theorem run_eqBytes {e : TypeId} (he : (tiOf P e).ty = .int .u8) (d : Nat) (a b : List UInt8) : ∀ (is : List Nat), (∀ i ∈ is, i < a.length ∧ i < b.length) → (Op.eqItems (d + 1) e 1 (u8s a).toArray (u8s b).toArray is).run P w = .ok (decide (∀ i ∈ is, gb a i = gb b i)) w
  | [], _ => by simp [Op.eqItems]
  | i :: is, h => by
    have hi := h i (by simp)
    have h1 : (part e (u8s a).toArray (i * 1)).run P w = .ok (u8 (gb a i)) w := run_part_one (by rw [he]; rfl) (by rw [Nat.mul_one, List.getElem?_toArray, u8s_get, gb_of hi.1]; rfl)
    have h2 : (part e (u8s b).toArray (i * 1)).run P w = .ok (u8 (gb b i)) w := run_part_one (by rw [he]; rfl) (by rw [Nat.mul_one, List.getElem?_toArray, u8s_get, gb_of hi.2]; rfl)
    have h3 : (Op.equalIn (d + 1) e (u8 (gb a i)) (u8 (gb b i))).run P w = .ok (decide (gb a i = gb b i)) w := by
      have := run_equalIn_int (P := P) w d e .u8 .u8 (gb a i).toNat (gb b i).toNat (ti_int he)
      unfold u8
      rw [this]
      congr 1
      have h1 : (((gb a i).toNat : Int) = ((gb b i).toNat : Int)) ↔ gb a i = gb b i := ⟨fun h => UInt8.toNat_inj.1 (by omega), fun h => by rw [h]⟩
      rw [Bool.eq_iff_iff]; simp [h1]
    have ih := run_eqBytes he d a b is (fun j hj => h j (by simp [hj]))
    simp only [Op.eqItems, Sem.run_bind, h1, h2, h3, Result.andThen_ok]
    by_cases hq : gb a i = gb b i
    · simp [hq, ih]
    · simp [hq]
theorem eqaD_ok {op : BinOp} {t : TypeId} {x y : D} {g : Prop} {d : D} (e : eqaD (tiOf P) op t x y = some (g, d)) (hg : g) {vx vy : Value} (hx : RV w S ρ H x vx []) (hy : RV w S ρ H y vy []) (ox oy : Operand) :
    ∃ v', (eqGuard op t ox oy vx vy).run P w = .ok () w ∧ (binOp op t vx vy).run P w = .ok v' w ∧ RV w S ρ H d v' [] := by
  unfold eqaD at e
  split at e
  · rename_i n el a b ht
    obtain rfl := inv_aggb hx
    obtain rfl := inv_aggb hy
    have key : isBA (tiOf P) t = true ∧ (tiOf P t).eqg = false ∧ (tiOf P el).sz = 1 ∧ a.length = n ∧ b.length = n → (eqGuard op t ox oy (.agg (u8s a).toArray) (.agg (u8s b).toArray)).run P w = .ok () w ∧ (Op.equal t (.agg (u8s a).toArray) (.agg (u8s b).toArray)).run P w = .ok (decide (a = b)) w := by
      rintro ⟨g1, g2, g3, rfl, g5⟩
      rw [ti_eqg] at g2
      have hel : (tiOf P el).ty = .int .u8 := by
        unfold isBA at g1
        rw [ht] at g1
        simp only at g1
        split at g1
        · assumption
        · cases g1
      refine ⟨?_, ?_⟩
      · clear e
        cases op <;> simp [eqGuard, g2]
      · obtain ⟨i, hi, hs⟩ := sz_ne (P := P) (t := el) (by omega)
        have hc : P.cellsOf el = 1 := by simp [Program.cellsOf, hi, hs, g3]
        have h1 := run_equalIn_array (P := P) w 9999 (u8s a).toArray (u8s b).toArray (ti_arr ht) hi
        rw [hc] at h1
        have h2 := run_eqBytes (w := w) hel 9998 a b (List.range a.length) (fun i hi => by simp at hi; omega)
        have h3 : (Op.equal t (.agg (u8s a).toArray) (.agg (u8s b).toArray)).run P w = (Op.equalIn (9999 + 1) t (.agg (u8s a).toArray) (.agg (u8s b).toArray)).run P w := rfl
        rw [h3, h1, h2]
        congr 1
        have : (∀ i ∈ List.range a.length, gb a i = gb b i) ↔ a = b := by
          constructor
          · intro h
            apply List.ext_getElem (by omega)
            intro i h1 h2
            have := h i (by simpa using h1)
            simpa [gb, List.getD_eq_getElem?_getD, h1, h2] using this
          · rintro rfl i _
            rfl
        exact decide_eq_decide.2 this
    split at e <;> first | (cases e; done) | (injection e with e; injection e with e1 e2; subst e1; subst e2)
    · obtain ⟨k1, k2⟩ := key hg
      refine ⟨_, k1, ?_, .bool _⟩
      simp only [binOp]
      simp [k2]
    · obtain ⟨k1, k2⟩ := key hg
      refine ⟨_, k1, ?_, .bool _⟩
      simp only [binOp]
      simp [k2]
  · cases e
end
section
variable {C : Ctx} {s : St} {ρ : Nat → Pl} {S : Nat → Prop} {Φ : Nat → List Nat} {w : World}
theorem lenD_ok {t ty : TypeId} {x : D} {g : Prop} {d : D} {R : List Nat} (e : lenD (tiOf C.P) s.ob t x = some (g, d, R)) (hg : g) {v : Value} (hr : RV w S ρ s.sh x v []) :
    ∃ v', (Builtin.len_ #[t] ty #[v]).run C.P w = .ok v' w ∧ RV w S ρ s.sh d v' [] := by
  unfold lenD at e
  split at e <;> first | (cases e; done) | (injection e with e; injection e with e1 e2; injection e2 with e2 e3; subst e1; subst e2)
  · rename_i l ht
    obtain rfl := inv_str hr
    exact ⟨_, by simp [Builtin.len_, run_underlying (ti_str ht), goInt, str_size], .int _ _⟩
  · rename_i q l ht
    obtain ⟨A, n, cap, rfl, h⟩ := inv_rob hr
    exact ⟨_, by simp [Builtin.len_, run_underlying (ti_slice ht), goInt, h.len], .int _ _⟩
  · rename_i q s' n cs ht
    obtain ⟨A, cap, rfl, h⟩ := inv_ros hr
    exact ⟨_, by simp [Builtin.len_, run_underlying (ti_slice ht), goInt], .int _ _⟩
  · rename_i q s' n f ht
    cases hr with
    | rof _ _ _ A cap b off us hn =>
      exact ⟨_, by simp [Builtin.len_, run_underlying (ti_slice ht), goInt], .int _ _⟩
  · rename_i q ht
    obtain rfl := inv_nilS hr
    exact ⟨_, by simp [Builtin.len_, run_underlying (ti_slice ht), goInt], .int _ _⟩
  · rename_i q o g' off len ht
    obtain ⟨A, cap, rfl, _⟩ := inv_sl hr hg
    exact ⟨_, by simp [Builtin.len_, run_underlying (ti_slice ht), goInt], .int _ _⟩
  · rename_i n q ht
    exact ⟨.int .i64 n, by cases v <;> simp [Builtin.len_, run_underlying (ti_arr ht), goInt], .int _ _⟩
theorem apD_ok {t : TypeId} {x : D} {g : Prop} {d : D} {R : List Nat} (e : apD (tiOf C.P) s.ob t x = some (g, d, R)) (hg : g) {v : Value} (hr : RV w S ρ s.sh x v []) :
    ∃ v', (Instr.arrayAt t v).run C.P w = .ok v' w ∧ RV w S ρ s.sh d v' [] := by
  unfold apD at e
  split at e <;> first | (cases e; done) | (injection e with e; injection e with e1 e2; injection e2 with e2 e3; subst e1; subst e2)
  · rename_i n q o g' off len ht
    obtain ⟨g1, g2, g3⟩ := hg
    obtain ⟨A, cap, rfl, h1, h2, h3, h4⟩ := inv_sl hr g1
    rcases h4 with ⟨h4, _⟩ | ⟨rfl, _⟩
    · omega
    · exact ⟨_, by simp [Instr.arrayAt, run_underlying (ti_arr ht), show ¬ len < n by omega], rv_ptr o g' _ g1⟩
  · rename_i n q l ht
    obtain ⟨g1, g2⟩ := hg
    obtain ⟨A, m, cap, rfl, h⟩ := inv_rob hr
    have hl := h.len
    obtain ⟨b, off, rfl, hb, hc⟩ := h.cells (by omega)
    refine ⟨.pointer (some ⟨b, off + 0, none⟩), by simp [Instr.arrayAt, run_underlying (ti_arr ht), show ¬ m < n by omega], ?_⟩
    exact .rpb 0 l b off hb (fun j hj => hc j (by omega))
end
end Go.Proofs.Ytpmbdppppnbmnaa
