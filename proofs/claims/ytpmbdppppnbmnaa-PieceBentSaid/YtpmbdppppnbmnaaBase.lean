/- Words for memory and small laws, over any program: a slice that reads as a list of bytes, a slice of the call's own; append, conversions between bytes and strings. No condition beyond what each lemma states. -/
import Derived.Test.YtpmbdppppnbmnaaMem
import Derived.Laws.BytesArg
import Derived.ProofKit
import Derived.OwnWalk
import Derived.Laws.BitsAllLaws
import Derived.Laws.BytesString
import Derived.Lib.SlBytesConst
namespace Go.Proofs.Ytpmbdppppnbmnaa
open Go.RowKit
set_option linter.unusedVariables false

/-- A byte as a value; bytes as values; bytes as a string. -/
def u8 (b : UInt8) : Value := .int .u8 (b.toNat : Int)
def u8s (l : List UInt8) : List Value := l.map u8
def str (l : List UInt8) : ByteArray := ⟨l.toArray⟩
/-- The byte at a place; 0: there is none. -/
def gb (l : List UInt8) (i : Nat) : UInt8 := l.getD i 0
theorem gb_def (l : List UInt8) (i : Nat) : gb l i = l.getD i 0 := rfl
theorem gb_get {l : List UInt8} {i : Nat} {x : UInt8} (h : l[i]? = some x) : gb l i = x := by unfold gb; rw [List.getD_eq_getElem?_getD, h]; rfl
theorem gb_of {l : List UInt8} {i : Nat} (h : i < l.length) : l[i]? = some (gb l i) := by unfold gb; rw [List.getD_eq_getElem?_getD, List.getElem?_eq_getElem h]; rfl
theorem str_toList (s : ByteArray) : str s.data.toList = s := rfl
theorem str_size (l : List UInt8) : (str l).size = l.length := rfl
theorem u8s_length (l : List UInt8) : (u8s l).length = l.length := by simp [u8s]
theorem u8s_one (l : List UInt8) : ∀ u ∈ u8s l, u.oneCell' = true := by
  intro u hu
  simp only [u8s, List.mem_map] at hu
  obtain ⟨b, _, rfl⟩ := hu
  rfl
theorem u8s_append (a b : List UInt8) : u8s (a ++ b) = u8s a ++ u8s b := by simp [u8s]
theorem u8s_get (l : List UInt8) (i : Nat) : (u8s l)[i]? = (l[i]?).map u8 := by simp [u8s]
theorem u8_wf (b : UInt8) : 0 ≤ (b.toNat : Int) ∧ (b.toNat : Int) ≤ 255 := by have := b.toNat_lt; omega
theorem str_inj {a b : List UInt8} : str a = str b ↔ a = b := by
  constructor
  · intro h
    have := congrArg (fun x : ByteArray => x.data.toList) h
    simpa [str] using this
  · rintro rfl; rfl
theorem str_append (a b : List UInt8) : str a ++ str b = str (a ++ b) := by
  apply ByteArray.ext
  simp [str]

theorem str_toL (l : List UInt8) : (str l).toList = l := by
  rw [ByteArray.toList_eq]
  simp [str]
section
variable {P : Program} {w : World}
theorem run_index_str (t : TypeId) (l : List UInt8) (k : IntKind) (i : Int) (h : P.underlying t = some .string) (h0 : 0 ≤ i) (h1 : i < (l.length : Int)) :
    (Instr.index t (.string (str l)) (.int k i)).run P w = .ok (.int .u8 ((gb l i.toNat).toNat : Int)) w := by
  rw [run_index_string w t (str l) k i h, dif_pos ⟨h0, h1⟩]
  congr 4
  rw [gb_def, List.getD_eq_getElem?_getD, List.getElem?_eq_getElem (by omega)]
  rfl
theorem str_extract (l : List UInt8) (i j : Nat) : (str l).extract i j = str ((l.take j).drop i) := by
  apply ByteArray.ext
  rw [ByteArray.data_extract]
  apply Array.ext'
  simp [str, List.drop_take]
theorem run_slice_str_l (t : TypeId) (l : List UInt8) (k : IntKind) (i : Int) (h : P.underlying t = some .string) (h0 : 0 ≤ i) (h1 : i ≤ (l.length : Int)) :
    (Instr.slice t (.string (str l)) (some (.int k i)) none none).run P w = .ok (.string (str (l.drop i.toNat))) w := by
  rw [run_slice_string_from_if w t (str l) k i h, if_pos ⟨h0, h1⟩, str_extract, str_size, List.take_length]
theorem run_slice_str_h (t : TypeId) (l : List UInt8) (k : IntKind) (i : Int) (h : P.underlying t = some .string) (h0 : 0 ≤ i) (h1 : i ≤ (l.length : Int)) :
    (Instr.slice t (.string (str l)) none (some (.int k i)) none).run P w = .ok (.string (str (l.take i.toNat))) w := by
  rw [run_slice_string_to_if w t (str l) k i h, if_pos ⟨h0, h1⟩, str_extract, List.drop_zero]
theorem run_slice_str_lh (t : TypeId) (l : List UInt8) (k k' : IntKind) (i j : Int) (h : P.underlying t = some .string) (h0 : 0 ≤ i) (h1 : i ≤ j) (h2 : j ≤ (l.length : Int)) :
    (Instr.slice t (.string (str l)) (some (.int k i)) (some (.int k' j)) none).run P w = .ok (.string (str ((l.take j.toNat).drop i.toNat))) w := by
  rw [run_slice_string w t (str l) k k' i j h h0 h1 h2, str_extract]
end

/-- A number's byte. -/
def b8 (x : Int) : UInt8 := UInt8.ofNat (x % 256).toNat
theorem u8_b8 {x : Int} (h0 : 0 ≤ x) (h1 : x ≤ 255) : u8 (b8 x) = .int .u8 x := by
  unfold u8 b8
  congr 1
  rw [UInt8.toNat_ofNat']
  omega
theorem u8_wrap (x : Int) : .int .u8 (IntKind.u8.wrap x) = u8 (b8 x) := by
  have h : IntKind.u8.wrap x = x % 256 := by simp [IntKind.wrap, IntKind.signed, IntKind.bits]
  unfold u8 b8
  rw [h]
  congr 1
  rw [UInt8.toNat_ofNat']
  omega
theorem u8_mod (x : Int) : .int .u8 (x % 256) = u8 (b8 x) := by
  rw [← u8_wrap]
  simp [IntKind.wrap, IntKind.signed, IntKind.bits]
theorem u8_x (a b : UInt8) : .int .u8 (bits .xor .u8 (a.toNat : Int) (b.toNat : Int)) = u8 (a ^^^ b) := by
  unfold u8
  rw [u8_xor_nat _ _ a.toNat_lt b.toNat_lt, UInt8.toNat_xor]
theorem b8_toNat {x : Int} (h0 : 0 ≤ x) (h1 : x ≤ 255) : ((b8 x).toNat : Int) = x := by
  unfold b8
  rw [UInt8.toNat_ofNat']
  omega
theorem b8_of (x : UInt8) : b8 (x.toNat : Int) = x := by
  have h := x.toNat_lt
  apply UInt8.toNat_inj.1
  unfold b8
  rw [UInt8.toNat_ofNat']
  omega

theorem w64 {x : Int} (h0 : -4611686018427387904 ≤ x) (h1 : x ≤ 4611686018427387904) : IntKind.i64.wrap x = x := by rw [IntKind.wrap_i64]; omega
/-- Two bytes as a number, the higher first. -/
theorem or16 (a b : Nat) (ha : a ≤ 255) (hb : b ≤ 255) : bits .or .i64 ((a : Int) * 256) (b : Int) = ((a * 256 + b : Nat) : Int) := by
  have h : (a * 256) ||| b = a * 256 + b := by
    have := Nat.shiftLeft_add_eq_or_of_lt (a := a) (b := b) (i := 8) (by omega)
    rw [Nat.shiftLeft_eq] at this
    exact this.symm
  have e : ((a : Int) * 256) = ((a * 256 : Nat) : Int) := by omega
  rw [e]
  show IntKind.i64.wrap ((BitVec.ofInt 64 ((a * 256 : Nat) : Int) ||| BitVec.ofInt 64 (b : Int)).toNat : Int) = _
  rw [BitVec.toNat_or, BitVec.ofInt_natCast, BitVec.ofInt_natCast, BitVec.toNat_ofNat, BitVec.toNat_ofNat, Nat.mod_eq_of_lt (by omega), Nat.mod_eq_of_lt (by omega), h, IntKind.wrap_i64]
  omega

/-- The slice '.slice A n cap' reads as the bytes l; where it is not empty it lies below block B. -/
structure Rd (w : World) (B : Nat) (A : Option Addr) (n cap : Nat) (l : List UInt8) : Prop where
  len : l.length = n
  le : n ≤ cap
  max : cap ≤ maxLen
  bd : B ≤ w.heap.size
  cells : 0 < n → ∃ b off, A = some ⟨b, off, none⟩ ∧ b < B ∧ ∀ i, i < n → w.cell? ⟨b, off + i, none⟩ = some (u8 (gb l i))

section
variable {w w' : World} {B B' : Nat} {A : Option Addr} {n cap : Nat} {l : List UInt8}

theorem Rd.nil_ (w : World) : Rd w 0 none 0 0 [] := ⟨rfl, Nat.le_refl _, by simp [maxLen], Nat.zero_le _, fun h => absurd h (by omega)⟩
theorem Rd.keep (h : Rd w B A n cap l) (hs : w.heap.size ≤ w'.heap.size) (hk : ∀ g o, g < B → w'.cell? ⟨g, o, none⟩ = w.cell? ⟨g, o, none⟩) : Rd w' B A n cap l :=
  ⟨h.len, h.le, h.max, Nat.le_trans h.bd hs, fun hn => by
    obtain ⟨b, off, e, hb, hc⟩ := h.cells hn
    exact ⟨b, off, e, hb, fun i hi => (hk b _ hb).trans (hc i hi)⟩⟩
theorem Rd.below (h : Rd w B A n cap l) (hb : Below B' w w') (hB : B ≤ B') : Rd w' B A n cap l :=
  h.keep hb.size fun g o hg => hb.cell (p := ⟨g, o, none⟩) (by show g < B'; omega)
theorem Rd.ext (h : Rd w B A n cap l) (hb : Below w.heap.size w w') : Rd w' B A n cap l := h.below hb h.bd
theorem Rd.up (h : Rd w B A n cap l) (hB : B ≤ B') (hs : B' ≤ w.heap.size) : Rd w B' A n cap l :=
  ⟨h.len, h.le, h.max, hs, fun hn => by
    obtain ⟨b, off, e, hb, hc⟩ := h.cells hn
    exact ⟨b, off, e, by omega, hc⟩⟩
theorem Rd.drew (h : Rd w B A n cap l) : Rd w.drew B A n cap l := ⟨h.len, h.le, h.max, h.bd, h.cells⟩
theorem Rd.alloc (h : Rd w B A n cap l) (o : Obj) : Rd (w.alloc o) B A n cap l := h.ext ((Below.refl _ _).alloc (Nat.le_refl _) o)
theorem Rd.grown (h : Rd w B A n cap l) {row : Option Nat} (hg : w.grownBy w' row) (hne : ∀ g, row = some g → B ≤ g) : Rd w' B A n cap l :=
  h.keep hg.size fun g o hlt => World.cell?_of_block (a := ⟨g, o, none⟩) (hg.block g (by have := h.bd; show g < _; omega) (fun e => by have := hne g e.symm; omega))
theorem Rd.setCell (h : Rd w B A n cap l) {p : Addr} (hp : B ≤ p.block) (u : Value) : Rd (w.setCell p u) B A n cap l :=
  h.below ((Below.refl B w).setCell hp u) (Nat.le_refl _)
theorem Rd.at_ (h : Rd w B A n cap l) (hn : 0 < n) : ∃ b off, A = some ⟨b, off, none⟩ ∧ b < B ∧ ∀ i, i < n → w.cell? ⟨b, off + i, none⟩ = some (.int .u8 ((gb l i).toNat : Int)) := h.cells hn
/-- The cells, said as append's laws ask for them. -/
theorem Rd.news (h : Rd w B A n cap l) (ad : Addr) (hA : A = some ad) : ∀ j u, (u8s l)[j]? = some u → w.cell? (ad.add j) = some u := by
  intro j u hu
  have hj : j < n := by
    have := (List.getElem?_eq_some_iff.1 hu).1
    rw [u8s_length, h.len] at this
    exact this
  obtain ⟨b, off, e, _, hc⟩ := h.cells (by omega)
  rw [hA] at e
  injection e with e
  subst e
  have hadd : (⟨b, off, none⟩ : Addr).add j = ⟨b, off + j, none⟩ := by unfold Addr.add; split <;> simp_all
  rw [hadd, hc j hj]
  rw [u8s_get] at hu
  have hl : j < l.length := by rw [h.len]; exact hj
  rw [List.getElem?_eq_getElem hl] at hu
  rw [gb_def, List.getD_eq_getElem?_getD, List.getElem?_eq_getElem hl]
  exact hu
/-- One byte. -/
theorem Rd.one {H : Nat} {x : UInt8} (hc : w.cell? ⟨H, 0, none⟩ = some (u8 x)) : Rd w w.heap.size (some ⟨H, 0, none⟩) 1 1 [x] := by
  refine ⟨rfl, Nat.le_refl _, by simp [maxLen], Nat.le_refl _, fun _ => ⟨H, 0, rfl, World.block_lt_of_cell? w _ hc, fun i hi => ?_⟩⟩
  obtain rfl : i = 0 := by omega
  simpa [gb_def] using hc
/-- 's[k:]' as the model cuts it. -/
theorem Rd.cut (h : Rd w B A n cap l) {k : Nat} (hk : k ≤ n) : Rd w B (cutA A cap k 1) (n - k) (cap - k) (l.drop k) := by
  unfold cutA
  rw [Nat.mul_one]
  have hle := h.le
  have hmax := h.max
  refine ⟨by rw [List.length_drop, h.len], by omega, by omega, h.bd, fun hn => ?_⟩
  obtain ⟨b, off, rfl, hb, hc⟩ := h.cells (by omega)
  rw [if_neg (by omega)]
  have hadd : (⟨b, off, none⟩ : Addr).add k = ⟨b, off + k, none⟩ := by unfold Addr.add; split <;> simp_all
  refine ⟨b, off + k, by simp [hadd], hb, fun i hi => ?_⟩
  rw [Nat.add_assoc, hc (k + i) (by omega)]
  simp [gb_def]
/-- 's[:k]'. -/
theorem Rd.take (h : Rd w B A n cap l) {k : Nat} (hk : k ≤ n) : Rd w B A k cap (l.take k) := by
  have hle := h.le
  refine ⟨by rw [List.length_take, h.len]; omega, by omega, h.max, h.bd, fun hn => ?_⟩
  obtain ⟨b, off, e, hb, hc⟩ := h.cells (by omega)
  refine ⟨b, off, e, hb, fun i hi => ?_⟩
  rw [hc i (by omega)]
  congr 2
  simp only [gb_def, List.getD_eq_getElem?_getD, List.getElem?_take, if_pos hi]
/-- 's[j:k]'. -/
theorem Rd.mid (h : Rd w B A n cap l) {j k : Nat} (hj : j ≤ k) (hk : k ≤ n) : Rd w B (cutA A cap j 1) (k - j) (cap - j) ((l.take k).drop j) := (h.take hk).cut hj
end

theorem Rd.drewN {w : World} {B : Nat} {A : Option Addr} {n cap : Nat} {l : List UInt8} (h : Rd w B A n cap l) (k : Nat) : Rd (w.drewN k) B A n cap l := ⟨h.len, h.le, h.max, h.bd, h.cells⟩

/-- What is known of a program's type []byte. -/
structure ByteTy (P : Program) (T E : TypeId) : Prop where
  sl : P.underlying T = some (.slice E)
  el : P.underlying E = some (.int .u8)
  info : (P.info? E).map (fun i => (i.zero, i.size, i.bytes)) = some (some (.int .u8 0), 1, 1)

theorem ByteTy.v {P : Program} {T E : TypeId} (bt : ByteTy P T E) : SlTy P T E (.int .u8 0) 1 1 := ⟨bt.sl, bt.info, rfl, by decide⟩

/-- A slice of bytes of the call's own (its block numbered from B on). -/
def Own (w : World) (B : Nat) (E : TypeId) (A : Option Addr) (n cap : Nat) (l : List UInt8) : Prop := OwnV w B E 1 A n cap (u8s l)

section
variable {w w' : World} {A : Option Addr} {n cap B : Nat} {E : TypeId} {l : List UInt8}
theorem Rd.v (h : Rd w B A n cap l) : RdV w B 1 A n cap (u8s l) := by
  refine ⟨by rw [u8s_length, h.len, Nat.mul_one], h.le, h.max, h.bd, fun hn => ?_⟩
  obtain ⟨b, off, e, hb, hc⟩ := h.cells hn
  refine ⟨b, off, e, hb, fun i u hu => ?_⟩
  rw [u8s_get] at hu
  cases hl : l[i]? with
  | none => rw [hl] at hu; cases hu
  | some x =>
    rw [hl] at hu
    have hi : i < l.length := (List.getElem?_eq_some_iff.1 hl).1
    rw [hc i (by rw [← h.len]; exact hi), ← hu, gb_def, List.getD_eq_getElem?_getD, hl]
    rfl
theorem RdV.rd (h : RdV w B 1 A n cap (u8s l)) : Rd w B A n cap l := by
  have hl : l.length = n := by have := h.len; rwa [u8s_length, Nat.mul_one] at this
  refine ⟨hl, h.le, h.max, h.bd, fun hn => ?_⟩
  obtain ⟨b, off, e, hb, hc⟩ := h.cells hn
  refine ⟨b, off, e, hb, fun i hi => hc i _ ?_⟩
  rw [u8s_get, gb_def, List.getD_eq_getElem?_getD, List.getElem?_eq_getElem (by omega)]
  rfl
theorem Own.nil_ (w : World) (B : Nat) (E : TypeId) : Own w B E none 0 0 [] := OwnV.nil_ w B E 1
theorem Own.len (h : Own w B E A n cap l) : l.length = n := by have := OwnV.len h; rwa [u8s_length, Nat.mul_one] at this
theorem Own.rd (h : Own w B E A n cap l) : Rd w w.heap.size A n cap l := (OwnV.rd h).rd
theorem Own.lt (h : Own w B E A n cap l) : ∀ g, blk A = some g → B ≤ g ∧ g < w.heap.size := OwnV.lt h
theorem Own.kept {row : Option Nat} (h : Own w B E A n cap l) (hg : w.grownBy w' row) (hne : ∀ g, blk A = some g → some g ≠ row) : Own w' B E A n cap l := OwnV.kept h hg hne
theorem Own.ext (h : Own w B E A n cap l) (hb : Below w.heap.size w w') : Own w' B E A n cap l := OwnV.ext h hb
theorem Own.drew (h : Own w B E A n cap l) : Own w.drew B E A n cap l := h
theorem Own.drewN (h : Own w B E A n cap l) (k : Nat) : Own (w.drewN k) B E A n cap l := h
theorem Own.alloc (h : Own w B E A n cap l) (o : Obj) : Own (w.alloc o) B E A n cap l := OwnV.alloc h o
theorem Own.far (h : Own w B E A n cap l) {p : Addr} (hp : p.block < B) (u : Value) : Own (w.setCell p u) B E A n cap l := OwnV.far h hp u
theorem Own.lower {B' : Nat} (h : Own w B E A n cap l) (hB : B' ≤ B) : Own w B' E A n cap l := OwnV.lower h hB
/-- '[]byte{..}', as the walk leaves it. -/
theorem Own.lit (w : World) (hB : B ≤ w.heap.size) (l : List UInt8) (hn : l.length ≤ maxLen) (cs : Array Value) (hcs : cs.toList = u8s l) (H n : Nat) (hH : H = w.heap.size) (hnn : n = l.length) :
    Own (w.alloc (.cells cs E)) B E (some ⟨H, 0, none⟩) n n l := by
  have hsz : cs.size = n * 1 := by rw [← Array.length_toList, hcs, u8s_length, Nat.mul_one, hnn]
  have := OwnV.lit (s := 1) (E := E) w hB cs H n hH hsz (by rw [hnn]; exact hn)
  unfold Own
  rw [← hcs]
  exact this
theorem Own.some_ (h : Own w B E A n cap l) (hn : 0 < n) : ∃ g, A = some ⟨g, 0, none⟩ ∧ B ≤ g ∧ g < w.heap.size ∧ (∀ i, i < n → w.frozen? ⟨g, i, none⟩ = false) ∧ ∀ i, i < n → w.cell? ⟨g, i, none⟩ = some (.int .u8 ((gb l i).toNat : Int)) := by
  have hl := h.len
  obtain ⟨g, hA, hb, hlt, hf, hc⟩ := OwnV.some_ h hn
  refine ⟨g, hA, hb, hlt, fun i hi => hf i (by omega), fun i hi => hc i _ ?_⟩
  rw [u8s_get, gb_def, List.getD_eq_getElem?_getD, List.getElem?_eq_getElem (by omega)]
  rfl
theorem Own.stored {g : Nat} (h : Own w B E (some ⟨g, 0, none⟩) n cap l) (i : Nat) (x : UInt8) : Own (w.setCell ⟨g, i, none⟩ (u8 x)) B E (some ⟨g, 0, none⟩) n cap (l.set i x) := by
  have := OwnV.stored h i (u8 x)
  unfold Own
  have e : u8s (l.set i x) = (u8s l).set i (u8 x) := by simp [u8s, List.map_set]
  rw [e]
  exact this
theorem Own.take (h : Own w B E A n cap l) {k : Nat} (hk : k ≤ n) : Own w B E A k cap (l.take k) := by
  have := OwnV.take h hk
  unfold Own
  rw [Nat.mul_one] at this
  have e : u8s (l.take k) = (u8s l).take k := by simp [u8s, List.map_take]
  rw [e]
  exact this
end

section
variable {P : Program} (w : World) {T E : TypeId}

theorem run_append_bytes (bt : ByteTy P T E) (ty : TypeId) (B : Nat) (A : Option Addr) (n cap : Nat) (l : List UInt8) (own : Own w B E A n cap l) (A2 : Option Addr) (m c : Nat) (l2 : List UInt8) {B2 : Nat} (rd : Rd w B2 A2 m c l2)
    (hlen : n + m ≤ 140737488355328) (hB : B ≤ w.heap.size) :
    ∃ A' c' w', (Builtin.append_ #[T, T] ty #[.slice A n cap, .slice A2 m c]).run P w = .ok (.slice A' (n + m) c') w' ∧ Own w' B E A' (n + m) c' (l ++ l2) ∧ w.grownBy w' (blk A) ∧ (blk A' = blk A ∨ blk A' = some w.heap.size) := by
  obtain ⟨A', c', w', hr, h2, h3, h4⟩ := run_append_v (P := P) w bt.v ty B A n cap (u8s l) own A2 m c (u8s l2) rd.v (u8s_one l2) (by unfold maxLen; omega) (by omega) hB
  refine ⟨A', c', w', hr, ?_, h3, h4⟩
  unfold Own
  rw [u8s_append]
  exact h2

theorem wp_append_bytes {o : Oper} {a : Act} {K : Act → World → Prop} {Q : Exit → Act → World → Prop} (s x : Operand) (bt : ByteTy P T E)
    (ho : o.op = .call { callee := .builtin .append, args := #[s, x], argTypes := #[T, T] })
    (B : Nat) (A : Option Addr) (n cap : Nat) (l : List UInt8) (hs : a.eval s = .slice A n cap) (own : Own w B E A n cap l) (A2 : Option Addr) (m c : Nat) (l2 : List UInt8) (hx : a.eval x = .slice A2 m c) {B2 : Nat} (rd : Rd w B2 A2 m c l2)
    (hlen : n + m ≤ 140737488355328) (hB : B ≤ w.heap.size)
    (h : ∀ A' c' w', Own w' B E A' (n + m) c' (l ++ l2) → w.grownBy w' (blk A) → (blk A' = blk A ∨ blk A' = some w.heap.size) → K (a.put o.dst (.slice A' (n + m) c')) w') : o.wp P a w K Q := by
  obtain ⟨A', c', w', hr, h2, h3, h4⟩ := run_append_bytes (P := P) w bt o.type B A n cap l own A2 m c l2 rd hlen hB
  unfold Oper.wp execOp
  simp only [ho, resolve, invoke, builtin, Sem.run_bind, Sem.run_pure, Result.andThen_ok, List.map_toArray, List.map_cons, List.map_nil, hs, hx, hr]
  exact h A' c' w' h2 h3 h4

theorem wpList_append_bytes {ops : Array Oper} {rest : List Oper} {o : Oper} {a : Act} {Q : Exit → Act → World → Prop} (hgd : o.guard = none) (s x : Operand) (bt : ByteTy P T E)
    (ho : o.op = .call { callee := .builtin .append, args := #[s, x], argTypes := #[T, T] })
    (B : Nat) (A : Option Addr) (n cap : Nat) (l : List UInt8) (hs : a.eval s = .slice A n cap) (own : Own w B E A n cap l) (A2 : Option Addr) (m c : Nat) (l2 : List UInt8) (hx : a.eval x = .slice A2 m c) {B2 : Nat} (rd : Rd w B2 A2 m c l2)
    (hlen : n + m ≤ 140737488355328) (hB : B ≤ w.heap.size)
    (h : ∀ A' c' w', Own w' B E A' (n + m) c' (l ++ l2) → w.grownBy w' (blk A) → (blk A' = blk A ∨ blk A' = some w.heap.size) → wpList P ops Q rest (a.put o.dst (.slice A' (n + m) c')) w') : wpList P ops Q (o :: rest) a w :=
  wpList_plain hgd fun _ hK => wp_append_bytes w s x bt ho B A n cap l hs own A2 m c l2 hx rd hlen hB fun A' c' w' h2 h3 h4 => hK _ _ (h A' c' w' h2 h3 h4)

theorem step_append_bytes {ops : Array Oper} {o : Oper} {a : Act} {K : Act → World → Prop} {Q : Exit → Act → World → Prop} {X : Prop} (hgd : o.guard = none) (s x : Operand) (bt : ByteTy P T E)
    (ho : o.op = .call { callee := .builtin .append, args := #[s, x], argTypes := #[T, T] })
    (B : Nat) (A : Option Addr) (n cap : Nat) (l : List UInt8) (hs : a.eval s = .slice A n cap) (own : Own w B E A n cap l) (A2 : Option Addr) (m c : Nat) (l2 : List UInt8) (hx : a.eval x = .slice A2 m c) {B2 : Nat} (rd : Rd w B2 A2 m c l2)
    (hlen : n + m ≤ 140737488355328) (hB : B ≤ w.heap.size)
    (h : ∀ A' c' w', Own w' B E A' (n + m) c' (l ++ l2) → w.grownBy w' (blk A) → (blk A' = blk A ∨ blk A' = some w.heap.size) → K (a.put o.dst (.slice A' (n + m) c')) w') :
    if Region.wanted o (yielded ops a.tmps) = true then Oper.wp P o a w K Q else X := by
  have hw : Region.wanted o (yielded ops a.tmps) = true := by simp [Region.wanted, hgd]
  rw [if_pos hw]
  exact wp_append_bytes w s x bt ho B A n cap l hs own A2 m c l2 hx rd hlen hB h

/-- 'make([]byte, n)'. -/
theorem make_bytes (bt : ByteTy P T E) (kl kc : IntKind) (N : Int) (n : Nat) (hN : N = (n : Int)) (hn : n ≤ 140737488355328) :
    ∃ w', (Instr.makeSlice T (.int kl N) (.int kc N)).run P w = .ok (.slice (some ⟨w.heap.size, 0, none⟩) n n) w' ∧ Own w' w.heap.size E (some ⟨w.heap.size, 0, none⟩) n n (List.replicate n 0) ∧ Below w.heap.size w w' ∧ w'.heap.size = w.heap.size + 1 := by
  obtain ⟨i, hi, hz0, hz1, hz2⟩ := info_parts bt.info
  subst hN
  have hr := run_make (P := P) w T E i (.int .u8 0) bt.sl hi hz0 kl kc (n : Int) (n : Int) (by omega) (by omega) (by rw [hz2]; omega) (by omega)
  rw [hz1, Int.toNat_natCast, Nat.mul_one] at hr
  refine ⟨_, hr, ?_, (Below.refl _ _).alloc (Nat.le_refl _) _, by simp⟩
  have hl : (madeCells (Value.int IntKind.u8 0).cells n).toList = u8s (List.replicate n 0) := by
    rw [show (Value.int IntKind.u8 0).cells = #[Value.int IntKind.u8 0] from rfl, toList_madeCells_one]
    simp only [u8s, List.map_replicate]
    rfl
  exact Own.lit w (Nat.le_refl _) (List.replicate n 0) (by simp only [List.length_replicate]; unfold maxLen; omega) _ hl _ n rfl (by simp)
theorem wpList_make_bytes {ops : Array Oper} {rest : List Oper} {o : Oper} {a : Act} {Q : Exit → Act → World → Prop} (hgd : o.guard = none) (x y : Operand) (bt : ByteTy P T E) (ho : o.op = .makeSlice T x y)
    (kl kc : IntKind) (N : Int) (n : Nat) (hN : N = (n : Int)) (hn : n ≤ 140737488355328) (hx : a.eval x = .int kl N) (hy : a.eval y = .int kc N)
    (h : ∀ w', Own w' w.heap.size E (some ⟨w.heap.size, 0, none⟩) n n (List.replicate n 0) → Below w.heap.size w w' → w'.heap.size = w.heap.size + 1 → wpList P ops Q rest (a.put o.dst (.slice (some ⟨w.heap.size, 0, none⟩) n n)) w') : wpList P ops Q (o :: rest) a w :=
  wpList_plain hgd fun _ hK => by
    obtain ⟨w', hr, h2, h3, h4⟩ := make_bytes (P := P) w bt kl kc N n hN hn
    unfold Oper.wp execOp
    simp only [ho, Sem.run_bind, hx, hy, hr, Result.andThen_ok, Sem.run_pure]
    exact hK _ _ (h w' h2 h3 h4)
/-- '[]byte(s)'. -/
theorem bytes_of_str (bt : ByteTy P T E) (S : TypeId) (hS : P.underlying S = some .string) (l : List UInt8) (hl : l.length ≤ 140737488355328) :
    ∃ cap w', (convert S T (.string (str l))).run P w = .ok (.slice (some ⟨w.heap.size, 0, none⟩) l.length cap) w' ∧ Own w' w.heap.size E (some ⟨w.heap.size, 0, none⟩) l.length cap l ∧ Below w.heap.size w w' ∧ w'.heap.size = w.heap.size + 1 := by
  refine ⟨_, _, Lib.run_convert_string_bytes w S T E (str l) hS bt.sl bt.el, ?_, ⟨rfl, rfl, rfl, ?_, fun k hk => Lib.bytesWorld_at_old w E (str l) k hk⟩, Lib.bytesWorld_size w E (str l)⟩
  · have hge := grownCap_ge w l.length 0 E
    have hm := grownCap_le_maxLen w l.length 0 E (by unfold maxLen; omega)
    have hsz : (Lib.bytesCells w E (str l)).size = grownCap w l.length 0 E := by
      have e : (str l).size = l.length := rfl
      simp only [Lib.bytesCells, Array.size_append, Array.size_map, Array.size_replicate, e]
      have e2 : (str l).data.size = l.length := rfl
      rw [e2]
      omega
    refine ⟨by rw [u8s_length, Nat.mul_one], hge, hm, .inr ⟨w.heap.size, _, _, rfl, Nat.le_refl _, Lib.bytesWorld_at_new w E (str l), .inl (Nat.le_refl _), by rw [hsz, str_size, Nat.mul_one], ?_⟩⟩
    simp [Lib.bytesCells, str, u8s, u8]
  · rw [Lib.bytesWorld_size]; omega
theorem wpList_bytes_of_str {ops : Array Oper} {rest : List Oper} {o : Oper} {a : Act} {Q : Exit → Act → World → Prop} (hgd : o.guard = none) (x : Operand) (bt : ByteTy P T E) (S : TypeId) (hS : P.underlying S = some .string) (ho : o.op = .convert S T x)
    (l : List UInt8) (hx : a.eval x = .string (str l)) (hl : l.length ≤ 140737488355328)
    (h : ∀ cap w', Own w' w.heap.size E (some ⟨w.heap.size, 0, none⟩) l.length cap l → Below w.heap.size w w' → w'.heap.size = w.heap.size + 1 → wpList P ops Q rest (a.put o.dst (.slice (some ⟨w.heap.size, 0, none⟩) l.length cap)) w') : wpList P ops Q (o :: rest) a w :=
  wpList_plain hgd fun _ hK => by
    obtain ⟨cap, w', hr, h2, h3, h4⟩ := bytes_of_str (P := P) w bt S hS l hl
    unfold Oper.wp execOp
    simp only [ho, Sem.run_bind, hx, hr, Result.andThen_ok, Sem.run_pure]
    exact hK _ _ (h cap w' h2 h3 h4)
/-- '[]byte("..")' of a constant. -/
theorem Rd.const (W : World) (cs : Array Value) (E : TypeId) (fz : Nat × Nat) (l : List UInt8) (hcs : cs.toList = u8s l) (H n : Nat) (hH : H = W.heap.size) (hn : n = l.length) (hm : n ≤ maxLen) :
    Rd (W.alloc (.cells cs E fz)) (W.heap.size + 1) (some ⟨H, 0, none⟩) n n l := by
  subst hH hn
  have hh : (W.alloc (.cells cs E fz)).heap[W.heap.size]? = some (.cells cs E fz) := by show (W.heap.push _)[W.heap.size]? = _; simp
  refine ⟨rfl, Nat.le_refl _, hm, by simp, fun _ => ⟨W.heap.size, 0, rfl, by omega, fun i hi => ?_⟩⟩
  rw [Nat.zero_add, cell_of_row _ _ i cs E fz hh, ← Array.getElem?_toList, hcs, u8s_get, gb_def, List.getD_eq_getElem?_getD, List.getElem?_eq_getElem hi]
  rfl
/-- 'string([]byte{..})': the bytes have just been laid. -/
theorem run_str_lit (bt : ByteTy P T E) (S : TypeId) (hS : P.underlying S = some .string) (l : List UInt8) (cs : Array Value) (hcs : cs.toList = u8s l) (n : Nat) (hn : n = l.length) (W : World) (H : Nat) (hH : H = W.heap.size) :
    (convert T S (.slice (some ⟨H, 0, none⟩) n n)).run P (W.alloc (.cells cs E)) = .ok (.string (str l)) (W.alloc (.cells cs E)) := by
  subst hn hH
  refine run_convert_bytes_back (W.alloc (.cells cs E)) T S E ⟨W.heap.size, 0, none⟩ l.length l bt.sl bt.el hS (fun j hj => ?_)
  have hadd : (⟨W.heap.size, 0, none⟩ : Addr).add j = ⟨W.heap.size, j, none⟩ := by unfold Addr.add; split <;> simp_all
  rw [hadd, World.cell?_alloc_new, ← Array.getElem?_toList, hcs, u8s_get, List.getElem?_eq_getElem hj]
  rfl
/-- 'string(b)'. -/
theorem run_str_of_bytes (bt : ByteTy P T E) (S : TypeId) (hS : P.underlying S = some .string) (A : Option Addr) (n cap : Nat) (l : List UInt8) {B : Nat} (rd : Rd w B A n cap l) :
    (convert T S (.slice A n cap)).run P w = .ok (.string (str l)) w := by
  have hlen := rd.len
  subst hlen
  rcases A with _ | ad
  · have : l = [] := by
      rcases Nat.eq_zero_or_pos l.length with h0 | h0
      · exact List.eq_nil_of_length_eq_zero h0
      · obtain ⟨_, _, h, _⟩ := rd.cells h0
        cases h
    subst this
    exact run_convert_bytes_nil w T E bt.sl bt.el 0 cap S hS
  · exact run_convert_bytes_back w T S E ad cap l bt.sl bt.el hS (fun j hj => by
      have := rd.news ad rfl j (u8 l[j]) (by rw [u8s_get, List.getElem?_eq_getElem hj]; rfl)
      exact this)
end
/-- The condition under which a drawn region is walked that holds a conversion of bytes to a string. -/
theorem keepC {P : Program} {T E S : TypeId} (bt : ByteTy P T E) (hS : P.underlying S = some .string) {K B : Nat} {W w' : World} {A : Option Addr} {n cap : Nat} {l : List UInt8} (rd : Rd W B A n cap l) (hB : B ≤ K) (h : Below K W w') :
    Below K W w' ∧ (∀ b o, b < K → w'.cell? ⟨b, o, none⟩ = W.cell? ⟨b, o, none⟩) ∧ (convert T S (.slice A n cap)).run P w' = .ok (.string (str l)) w' :=
  ⟨h, fun b o hb => h.cell (p := ⟨b, o, none⟩) hb, run_str_of_bytes w' bt S hS A n cap l (rd.below h hB)⟩

/-- An argument of type []byte: what it reads as. -/
theorem arg_bytes {P : Program} {T E : TypeId} (bt : ByteTy P T E) {H : Type} {enc : TypeId × Value → H} {W : World} {base : Nat} {sp : Nat → Bool} {hd : Bool} {A : Option Addr} {n cap : Nat} {d : DataW H} {pl : List MemPlace}
    (h : DataW.Trod enc P W base sp hd T (.slice A n cap) d pl) : ∃ l, Rd W W.heap.size A n cap l := by
  have hone : P.cellsOf E = 1 := by
    obtain ⟨i, hi, _, hz, _⟩ := info_parts bt.info
    simp [Program.cellsOf, hi, hz]
  obtain ⟨fuel, hf⟩ := h
  rcases ChangeShapes.open_ints bt.sl bt.el hone hf with ⟨hcs, _⟩ | ⟨x, l, c, zs, hcs, _, hl, hm, hz, _, hcell, hwz⟩
  · simp [Value.cells] at hcs
    obtain ⟨rfl, rfl, rfl⟩ := hcs
    exact ⟨[], (Rd.nil_ W).up (Nat.zero_le _) (Nat.le_refl _)⟩
  · simp [Value.cells] at hcs
    obtain ⟨rfl, rfl, rfl⟩ := hcs
    have hz' : zs.length = (if sp x.block then cap else n) := hz
    have hnz : n ≤ zs.length := by rw [hz']; split <;> omega
    refine ⟨(zs.take n).map b8, ⟨by rw [List.length_map, List.length_take]; omega, hl, hm, Nat.le_refl _, fun hn => ?_⟩⟩
    obtain ⟨b, off, spot⟩ := x
    have h0 := hcell 0 (by omega)
    have hspot : spot = none := by simpa [Addr.add] using World.cell?_spot h0
    subst hspot
    refine ⟨b, off, rfl, World.block_lt_of_cell? W _ (by rw [add_lit] at h0; exact h0), fun i hi => ?_⟩
    have hc := hcell i (by omega)
    rw [add_lit] at hc
    rw [hc]
    have hi' : i < zs.length := by omega
    have hw := hwz _ (List.getElem_mem hi')
    have hw2 : 0 ≤ zs[i] ∧ zs[i] ≤ 255 := by simpa [Lit.wf, IntKind.min, IntKind.max, IntKind.signed, IntKind.bits] using hw
    have e : gb ((zs.take n).map b8) i = b8 zs[i] := gb_get (by rw [List.getElem?_map, List.getElem?_take, if_pos hi, List.getElem?_eq_getElem hi']; rfl)
    rw [e, u8_b8 hw2.1 hw2.2, List.getD_eq_getElem?_getD, List.getElem?_eq_getElem hi']
    rfl
end Go.Proofs.Ytpmbdppppnbmnaa
