/- The abstract values of a call: what a value of the model reads as, in a world of which some blocks are read only (S) and others are the call's own (F: the blocks that the value owns). Over any program. -/
import Derived.Test.YtpmbdppppnbmnaaW32
import Derived.Test.YtpmbdppppnbmnaaOwn
namespace Go.Proofs.Ytpmbdppppnbmnaa
open Go Go.RowKit
set_option linter.unusedVariables false
set_option linter.unusedSimpArgs false

/-- What is known of a value. -/
inductive D where
  | bot
  | bool (b : Bool)
  | int (k : IntKind) (n : Int)
  | u8 (x : UInt8)
  | u32 (x : UInt32)
  | str (l : List UInt8)
  | nilP
  | nilS
  | nilF
  | fn (f : Nat)
  /-- the address of cell off of object o (of its g-th making) -/
  | ptr (o g off : Nat)
  /-- len elements of object o, from cell off on -/
  | sl (o g off len : Nat)
  /-- a slice of bytes in read-only memory -/
  | rob (l : List UInt8)
  /-- a slice of n elements of s cells each in read-only memory -/
  | ros (s n : Nat) (cs : List D)
  /-- the address of cell off of read-only memory that reads as cs -/
  | rop (off : Nat) (cs : List D)
  /-- a slice of n elements of s cells each in read-only memory, cell j of element i being f i j -/
  | rof (s n : Nat) (f : Nat → Nat → D)
  /-- the address of cell j of element k of such memory -/
  | rpf (k j s n : Nat) (f : Nat → Nat → D)
  /-- the address of byte k of read-only bytes -/
  | rpb (k : Nat) (l : List UInt8)
  | aggb (l : List UInt8)
  | agg (cs : List D)
  | tup (cs : List D)
  /-- known where c is true -/
  | iff (c : Bool) (d : D)
  /-- a function value that hands out the pieces of n bytes of l -/
  | chunk (f : Nat) (l : List UInt8) (n : Nat)
  /-- a slice that owns its row -/
  | ownb (l : List UInt8)
  | owns (s n : Nat) (cs : List D)
  /-- an address that owns its block -/
  | ownp (cs : List D)
  deriving Inhabited

/-- A value of one cell that names no object and owns nothing. -/
def D.pf0 : D → Bool
  | .bool _ | .int _ _ | .u8 _ | .u32 _ | .str _ | .nilP | .nilS | .nilF | .fn _ | .rob _ | .chunk _ _ _ | .rof _ _ _ | .rpf _ _ _ _ _ | .rpb _ _ => true
  | _ => false

/-- Where an object lies; its making, the cells of its elements, and how many cells it holds. -/
structure Pl where
  blk : Nat
  base : Nat
  size : Nat
structure Sh where
  gen : Nat
  esz : Nat
  clen : Nat

/-- The slice '.slice A n cap' reads as the bytes l; where it is not empty it lies in a block of S. -/
structure RdS (w : World) (S : Nat → Prop) (A : Option Addr) (n cap : Nat) (l : List UInt8) : Prop where
  len : l.length = n
  le : n ≤ cap
  max : cap ≤ maxLen
  cells : 0 < n → ∃ b off, A = some ⟨b, off, none⟩ ∧ S b ∧ ∀ i, i < n → w.cell? ⟨b, off + i, none⟩ = some (u8 (gb l i))

theorem RdS.rd {w : World} {S : Nat → Prop} {A : Option Addr} {n cap : Nat} {l : List UInt8} (h : RdS w S A n cap l) (hS : ∀ b, S b → b < w.heap.size) : Rd w w.heap.size A n cap l :=
  ⟨h.len, h.le, h.max, Nat.le_refl _, fun hn => by
    obtain ⟨b, off, e, hb, hc⟩ := h.cells hn
    exact ⟨b, off, e, hS b hb, hc⟩⟩
theorem RdS.mono {w w' : World} {S S' : Nat → Prop} {A : Option Addr} {n cap : Nat} {l : List UInt8} (h : RdS w S A n cap l) (hS : ∀ b, S b → S' b) (hw : ∀ b, S b → w'.heap[b]? = w.heap[b]?) : RdS w' S' A n cap l :=
  ⟨h.len, h.le, h.max, fun hn => by
    obtain ⟨b, off, e, hb, hc⟩ := h.cells hn
    exact ⟨b, off, e, hS b hb, fun i hi => (World.cell?_of_block (a := ⟨b, off + i, none⟩) (hw b hb)).trans (hc i hi)⟩⟩

/-- A slice into an object. -/
def SlAt (p : Pl) (h : Sh) (off len : Nat) (v : Value) : Prop :=
  ∃ A cap, v = .slice A len cap ∧ len ≤ cap ∧ cap ≤ maxLen ∧ off + len * h.esz ≤ h.clen ∧ ((len = 0 ∧ cap = 0) ∨ (A = some ⟨p.blk, p.base + off, none⟩ ∧ p.base + off + cap * h.esz ≤ p.size))

/-- A row of its own, from which a slice of cells xs is cut. -/
def RowAt (w : World) (A : Option Addr) (n cap s : Nat) (F : List Nat) (cur : Array Value) (off : Nat) : Prop :=
  n ≤ cap ∧ cap ≤ maxLen ∧ ((n = 0 ∧ cap = 0 ∧ F = []) ∨ ∃ b E fz, F = [b] ∧ A = some ⟨b, off, none⟩ ∧ w.heap[b]? = some (.cells cur E fz) ∧ Loose fz cur.size ∧ off + cap * s ≤ cur.size)

inductive RV (w : World) (S : Nat → Prop) (ρ : Nat → Pl) (H : Nat → Sh) : D → Value → List Nat → Prop
  | bot (v : Value) : RV w S ρ H .bot v []
  | bool (b : Bool) : RV w S ρ H (.bool b) (.bool b) []
  | int (k : IntKind) (n : Int) : RV w S ρ H (.int k n) (.int k n) []
  | u8 (x : UInt8) : RV w S ρ H (.u8 x) (Proofs.Ytpmbdppppnbmnaa.u8 x) []
  | u32 (x : UInt32) : RV w S ρ H (.u32 x) (u32v x) []
  | str (l : List UInt8) : RV w S ρ H (.str l) (.string (Proofs.Ytpmbdppppnbmnaa.str l)) []
  | nilP : RV w S ρ H .nilP (.pointer none) []
  | nilS : RV w S ρ H .nilS (.slice none 0 0) []
  | nilF : RV w S ρ H .nilF .nilFunc []
  | fn (f : Nat) : RV w S ρ H (.fn f) (.func (.func f) #[] #[]) []
  | ptr (o g off : Nat) (v : Value) (h1 : v.oneCell' = true) (hg : g ≤ (H o).gen) (h : g = (H o).gen → v = .pointer (some ⟨(ρ o).blk, (ρ o).base + off, none⟩)) : RV w S ρ H (.ptr o g off) v []
  | sl (o g off len : Nat) (v : Value) (h1 : v.oneCell' = true) (hg : g ≤ (H o).gen) (h : g = (H o).gen → SlAt (ρ o) (H o) off len v) : RV w S ρ H (.sl o g off len) v []
  | rob (l : List UInt8) (A : Option Addr) (n cap : Nat) (h : RdS w S A n cap l) : RV w S ρ H (.rob l) (.slice A n cap) []
  | ros (s n : Nat) (cs : List D) (A : Option Addr) (cap b off : Nat) (us : Nat → Value) (hl : cs.length = n * s) (hn : n ≤ cap) (hm : cap ≤ maxLen) (hA : 0 < n → A = some ⟨b, off, none⟩ ∧ S b)
      (hc : 0 < n → ∀ (i : Nat) (c : D), cs[i]? = some c → w.cell? ⟨b, off + i, none⟩ = some (us i)) (hr : ∀ (i : Nat) (c : D), cs[i]? = some c → RV w S ρ H c (us i) []) : RV w S ρ H (.ros s n cs) (.slice A n cap) []
  | rop (off : Nat) (cs : List D) (b base : Nat) (us : Nat → Value) (hb : S b)
      (hc : ∀ (i : Nat) (c : D), cs[i]? = some c → w.cell? ⟨b, base + i, none⟩ = some (us i)) (hr : ∀ (i : Nat) (c : D), cs[i]? = some c → RV w S ρ H c (us i) []) : RV w S ρ H (.rop off cs) (.pointer (some ⟨b, base + off, none⟩)) []
  | rof (s n : Nat) (f : Nat → Nat → D) (A : Option Addr) (cap b off : Nat) (us : Nat → Nat → Value) (hn : n ≤ cap) (hm : cap ≤ maxLen) (hp : ∀ i j, i < n → j < s → (f i j).pf0 = true) (hA : 0 < n → A = some ⟨b, off, none⟩ ∧ S b)
      (hc : ∀ i j, i < n → j < s → w.cell? ⟨b, off + (i * s + j), none⟩ = some (us i j)) (hr : ∀ i j, i < n → j < s → RV w S ρ H (f i j) (us i j) []) : RV w S ρ H (.rof s n f) (.slice A n cap) []
  | rpf (k j s n : Nat) (f : Nat → Nat → D) (b base : Nat) (us : Nat → Nat → Value) (hb : S b) (hp : ∀ i j, i < n → j < s → (f i j).pf0 = true)
      (hc : ∀ i j, i < n → j < s → w.cell? ⟨b, base + (i * s + j), none⟩ = some (us i j)) (hr : ∀ i j, i < n → j < s → RV w S ρ H (f i j) (us i j) []) : RV w S ρ H (.rpf k j s n f) (.pointer (some ⟨b, base + (k * s + j), none⟩)) []
  | rpb (k : Nat) (l : List UInt8) (b base : Nat) (hb : S b) (hc : ∀ i, i < l.length → w.cell? ⟨b, base + i, none⟩ = some (Proofs.Ytpmbdppppnbmnaa.u8 (gb l i))) : RV w S ρ H (.rpb k l) (.pointer (some ⟨b, base + k, none⟩)) []
  | aggb (l : List UInt8) : RV w S ρ H (.aggb l) (.agg (u8s l).toArray) []
  | agg (cs : List D) (vs : List Value) (Fs : List (List Nat)) (F : List Nat) (hv : vs.length = cs.length) (hf : Fs.length = cs.length) (hF : F = Fs.flatten)
      (hr : ∀ (i : Nat) (c : D) (u : Value) (f : List Nat), cs[i]? = some c → vs[i]? = some u → Fs[i]? = some f → RV w S ρ H c u f) : RV w S ρ H (.agg cs) (.agg vs.toArray) F
  | tup (cs : List D) (vs : List Value) (Fs : List (List Nat)) (F : List Nat) (hv : vs.length = cs.length) (hf : Fs.length = cs.length) (hF : F = Fs.flatten)
      (hr : ∀ (i : Nat) (c : D) (u : Value) (f : List Nat), cs[i]? = some c → vs[i]? = some u → Fs[i]? = some f → RV w S ρ H c u f) : RV w S ρ H (.tup cs) (.tuple vs.toArray) F
  | iff (c : Bool) (d : D) (v : Value) (h : c = true → RV w S ρ H d v []) (h0 : c = false → v = undef) : RV w S ρ H (.iff c d) v []
  | chunk (f : Nat) (l : List UInt8) (n : Nat) (b1 b2 : Nat) (A : Option Addr) (m cap : Nat) (h1 : S b1) (h2 : S b2) (h : RdS w S A m cap l)
      (hc1 : w.cell? ⟨b1, 0, none⟩ = some (.slice A m cap)) (hc2 : w.cell? ⟨b2, 0, none⟩ = some (.int .i64 n)) : RV w S ρ H (.chunk f l n) (.func (.func f) #[] #[.pointer (some ⟨b1, 0, none⟩), .pointer (some ⟨b2, 0, none⟩)]) []
  | ownb (l : List UInt8) (A : Option Addr) (n cap : Nat) (F : List Nat) (cur : Array Value) (off : Nat) (hl : l.length = n) (h : RowAt w A n cap 1 F cur off)
      (hc : ∀ i, i < n → cur[off + i]? = some (Proofs.Ytpmbdppppnbmnaa.u8 (gb l i))) : RV w S ρ H (.ownb l) (.slice A n cap) F
  | owns (s n : Nat) (cs : List D) (A : Option Addr) (cap : Nat) (F F0 : List Nat) (Fs : List (List Nat)) (cur : Array Value) (off : Nat) (hl : cs.length = n * s) (h : RowAt w A n cap s F0 cur off) (hf : Fs.length = cs.length) (hF : F = F0 ++ Fs.flatten)
      (hr : ∀ (i : Nat) (c : D) (u : Value) (f : List Nat), cs[i]? = some c → cur[off + i]? = some u → Fs[i]? = some f → RV w S ρ H c u f) : RV w S ρ H (.owns s n cs) (.slice A n cap) F
  | ownp (cs : List D) (b base : Nat) (cur : Array Value) (E : TypeId) (fz : Nat × Nat) (F : List Nat) (Fs : List (List Nat)) (hh : w.heap[b]? = some (.cells cur E fz)) (hz : Loose fz cur.size) (hs : base + cs.length ≤ cur.size) (hf : Fs.length = cs.length) (hF : F = b :: Fs.flatten)
      (hr : ∀ (i : Nat) (c : D) (u : Value) (f : List Nat), cs[i]? = some c → cur[base + i]? = some u → Fs[i]? = some f → RV w S ρ H c u f) : RV w S ρ H (.ownp cs) (.pointer (some ⟨b, base, none⟩)) F

theorem mem_flat_of {Fs : List (List Nat)} {i : Nat} {f : List Nat} (h : Fs[i]? = some f) {b : Nat} (hb : b ∈ f) : b ∈ Fs.flatten :=
  List.mem_flatten.2 ⟨f, List.mem_of_getElem? h, hb⟩

theorem RowAt.same {w w' : World} {A : Option Addr} {n cap s : Nat} {F : List Nat} {cur : Array Value} {off : Nat} (h : RowAt w A n cap s F cur off) (hw : ∀ b ∈ F, w'.heap[b]? = w.heap[b]?) : RowAt w' A n cap s F cur off := by
  obtain ⟨h1, h2, h3⟩ := h
  refine ⟨h1, h2, ?_⟩
  rcases h3 with h3 | ⟨b, E, fz, rfl, hA, hh, r⟩
  · exact .inl h3
  · exact .inr ⟨b, E, fz, rfl, hA, (hw b (by simp)).trans hh, r⟩

theorem RV.mono {w w' : World} {S S' : Nat → Prop} {ρ ρ' : Nat → Pl} {H H' : Nat → Sh} (hS : ∀ b, S b → S' b) (hw : ∀ b, S b → w'.heap[b]? = w.heap[b]?)
    (hH : ∀ o, (H o).gen ≤ (H' o).gen ∧ ((H' o).gen = (H o).gen → H' o = H o ∧ ρ' o = ρ o)) {d : D} {v : Value} {F : List Nat} (h : RV w S ρ H d v F) :
    (∀ b ∈ F, w'.heap[b]? = w.heap[b]?) → RV w' S' ρ' H' d v F := by
  induction h with
  | bot v => intro _; exact .bot v
  | bool b => intro _; exact .bool b
  | int k n => intro _; exact .int k n
  | u8 x => intro _; exact .u8 x
  | u32 x => intro _; exact .u32 x
  | str l => intro _; exact .str l
  | nilP => intro _; exact .nilP
  | nilS => intro _; exact .nilS
  | nilF => intro _; exact .nilF
  | fn f => intro _; exact .fn f
  | ptr o g off v h1 hg h =>
    intro _
    refine .ptr o g off v h1 (Nat.le_trans hg (hH o).1) (fun e => ?_)
    have e2 : (H' o).gen = (H o).gen := Nat.le_antisymm (e ▸ hg) (hH o).1
    obtain ⟨e3, e4⟩ := (hH o).2 e2
    rw [e4]
    exact h (e.trans e2)
  | sl o g off len v h1 hg h =>
    intro _
    refine .sl o g off len v h1 (Nat.le_trans hg (hH o).1) (fun e => ?_)
    have e2 : (H' o).gen = (H o).gen := Nat.le_antisymm (e ▸ hg) (hH o).1
    obtain ⟨e3, e4⟩ := (hH o).2 e2
    rw [e3, e4]
    exact h (e.trans e2)
  | rob l A n cap h => intro _; exact .rob l A n cap (h.mono hS hw)
  | ros s n cs A cap b off us hl hn hm hA hc hr ih =>
    intro _
    exact .ros s n cs A cap b off us hl hn hm (fun h => ⟨(hA h).1, hS _ (hA h).2⟩) (fun h i c e => (World.cell?_of_block (a := ⟨b, off + i, none⟩) (hw b (hA h).2)).trans (hc h i c e)) (fun i c e => ih i c e (by simp))
  | rop off cs b base us hb hc hr ih =>
    intro _
    exact .rop off cs b base us (hS _ hb) (fun i c e => (World.cell?_of_block (a := ⟨b, base + i, none⟩) (hw b hb)).trans (hc i c e)) (fun i c e => ih i c e (by simp))
  | rof s n f A cap b off us hn hm hp hA hc hr ih =>
    intro _
    exact .rof s n f A cap b off us hn hm hp (fun h => ⟨(hA h).1, hS _ (hA h).2⟩) (fun i j hi hj => (World.cell?_of_block (a := ⟨b, off + (i * s + j), none⟩) (hw b (hA (by omega)).2)).trans (hc i j hi hj)) (fun i j hi hj => ih i j hi hj (by simp))
  | rpf k j s n f b base us hb hp hc hr ih =>
    intro _
    exact .rpf k j s n f b base us (hS _ hb) hp (fun i j hi hj => (World.cell?_of_block (a := ⟨b, base + (i * s + j), none⟩) (hw b hb)).trans (hc i j hi hj)) (fun i j hi hj => ih i j hi hj (by simp))
  | rpb k l b base hb hc =>
    intro _
    exact .rpb k l b base (hS _ hb) (fun i hi => (World.cell?_of_block (a := ⟨b, base + i, none⟩) (hw b hb)).trans (hc i hi))
  | aggb l => intro _; exact .aggb l
  | agg cs vs Fs F hv hf hF hr ih =>
    intro hb
    subst hF
    exact .agg cs vs Fs _ hv hf rfl (fun i c u f h1 h2 h3 => ih i c u f h1 h2 h3 (fun b h => hb b (mem_flat_of h3 h)))
  | tup cs vs Fs F hv hf hF hr ih =>
    intro hb
    subst hF
    exact .tup cs vs Fs _ hv hf rfl (fun i c u f h1 h2 h3 => ih i c u f h1 h2 h3 (fun b h => hb b (mem_flat_of h3 h)))
  | iff c d v h h0 ih => intro _; exact .iff c d v (fun e => ih e (by simp)) h0
  | chunk f l n b1 b2 A m cap h1 h2 h hc1 hc2 =>
    intro _
    exact .chunk f l n b1 b2 A m cap (hS _ h1) (hS _ h2) (h.mono hS hw) ((World.cell?_of_block (a := ⟨b1, 0, none⟩) (hw b1 h1)).trans hc1) ((World.cell?_of_block (a := ⟨b2, 0, none⟩) (hw b2 h2)).trans hc2)
  | ownb l A n cap F cur off hl h hc =>
    intro hb
    exact .ownb l A n cap F cur off hl (h.same hb) hc
  | owns s n cs A cap F F0 Fs cur off hl h hf hF hr ih =>
    intro hb
    subst hF
    exact .owns s n cs A cap _ F0 Fs cur off hl (h.same fun b hm => hb b (List.mem_append_left _ hm)) hf rfl (fun i c u f h1 h2 h3 => ih i c u f h1 h2 h3 (fun b h => hb b (List.mem_append_right _ (mem_flat_of h3 h))))
  | ownp cs b base cur E fz F Fs hh hz hs hf hF hr ih =>
    intro hb
    subst hF
    exact .ownp cs b base cur E fz _ Fs ((hb b (by simp)).trans hh) hz hs hf rfl (fun i c u f h1 h2 h3 => ih i c u f h1 h2 h3 (fun b h => hb b (List.mem_cons_of_mem _ (mem_flat_of h3 h))))
end Go.Proofs.Ytpmbdppppnbmnaa
