/- What the claim leans on, text Zg: TabS. No condition beyond what each lemma states. -/
import Derived.Test.YtabkpoklihkifaaDoorRows
import Derived.Test.YtabkpoklihkifaaDoorZe
import Derived.Test.YtabkpoklihkifaaDoorZd
import Derived.Lib.LaidTab
import Derived.Stop.LaidErr

/- What the rows' laid lists give: the tables of hash and old, as the abstract state reads them. -/
namespace Go.Proofs.YtabkpoklihkifaaDoor
open Go Go.RowKit Go.ChangeShapes Go.WideShapes
set_option linter.unusedVariables false
set_option linter.unusedSimpArgs false

theorem gStart : Tryd.prog.globalNamed "tollgate/hash.start" = some 0 := by kernel_rfl
theorem gRounds : Tryd.prog.globalNamed "tollgate/hash.rounds" = some 1 := by kernel_rfl
theorem gStartT : (Tryd.prog.globals[0]?).map (·.type) = some 75 := by kernel_rfl
theorem gRoundsT : (Tryd.prog.globals[1]?).map (·.type) = some 79 := by kernel_rfl
theorem c8u32 : Tryd.prog.cellsOf 75 = 8 := by kernel_rfl
theorem c64u32 : Tryd.prog.cellsOf 79 = 64 := by kernel_rfl
theorem c1u32 : Tryd.prog.cellsOf 73 = 1 := by kernel_rfl
def nums (l : List UInt32) : List Int := l.map fun x => (x.toNat : Int)
theorem nums_get (l : List UInt32) {i : Nat} (h : i < l.length) : (nums l).getD i 0 = ((l.getD i 0).toNat : Int) := by
  simp [nums, List.getD_eq_getElem?_getD, h]
theorem data_start {H : Type} : (Rows.laid_tollgate_hash_start : DataW H) = Lib.tabData .u32 (nums startL) := by rfl
theorem data_rounds {H : Type} : (Rows.laid_tollgate_hash_rounds : DataW H) = Lib.tabData .u32 (nums kt) := by rfl
theorem laidTail {P : Program} {x : String × DataW Unit} {rest : List (String × DataW Unit)} {W : World} (h : laidMet P (x :: rest) W) : laidMet P rest W := laidMet.tail h
/-- A table of words is there for the readers. -/
theorem rpf_tab {W : World} {g : Nat} {name : String} {l : List UInt32} (hg : Tryd.prog.globalNamed name = some g) (h : Lib.TabIs Tryd.prog W name .u32 (nums l)) (s n : Nat) (f : Nat → Nat → D) (hl : n * s = l.length) (h0 : 0 < l.length)
    (hf : ∀ i j, i < n → j < s → f i j = .u32 (l.getD (i * s + j) 0)) : NV W (AllB W) (.rpf 0 0 s n f) (.pointer (some ⟨g, 0, none⟩)) [] := by
  have hc : ∀ i, i < l.length → W.cell? ⟨g, i, none⟩ = some (.int .u32 ((l.getD i 0).toNat : Int)) := fun i hi => by
    rw [h.cell hg i (by simpa [nums] using hi), nums_get l hi]
  have hlt : ∀ i j, i < n → j < s → i * s + j < l.length := fun i j hi hj => by
    rw [← hl]
    calc i * s + j < i * s + s := by omega
      _ = (i + 1) * s := by rw [Nat.add_mul, Nat.one_mul]
      _ ≤ n * s := Nat.mul_le_mul_right s hi
  have := RV.rpf (w := W) (S := AllB W) (ρ := ρ0) (H := H0) 0 0 s n f g 0 (fun i j => .int .u32 ((l.getD (i * s + j) 0).toNat : Int)) (rowB (hc 0 h0)) (fun i j hi hj => by rw [hf i j hi hj]; rfl)
    (fun i j hi hj => by rw [Nat.zero_add]; exact hc _ (hlt i j hi hj)) (fun i j hi hj => by rw [hf i j hi hj]; exact .u32 _)
  rw [Nat.zero_mul] at this
  exact this
theorem glS {W : World} (h : laidMetH Tryd.prog [("tollgate/hash.start", Rows.laid_tollgate_hash_start), ("tollgate/hash.rounds", Rows.laid_tollgate_hash_rounds)] W) : GlOk GS W (AllB W) := by
  have h' : laidMet Tryd.prog [("tollgate/hash.start", Rows.laid_tollgate_hash_start), ("tollgate/hash.rounds", Rows.laid_tollgate_hash_rounds)] W := h
  rw [data_start, data_rounds] at h'
  have t0 := Lib.tabIs_of_head gStart gStartT Tryd.underlying75 Tryd.underlying73 c1u32 c8u32 h'
  have t1 := Lib.tabIs_of_head gRounds gRoundsT Tryd.underlying79 Tryd.underlying73 c1u32 c64u32 (laidTail h')
  intro g cs hg
  unfold GS at hg
  split at hg
  · injection hg with hg
    subst hg
    exact rpf_tab gStart t0 8 1 _ rfl (by decide) (fun i j hi hj => by
      obtain rfl : i = 0 := by omega
      rw [Nat.zero_mul, Nat.zero_add])
  · injection hg with hg
    subst hg
    exact rpf_tab gRounds t1 1 64 _ rfl (by decide) (fun i j hi hj => by
      obtain rfl : j = 0 := by omega
      rw [Nat.mul_one, Nat.add_zero]
      rfl)
  · cases hg
/-- A world's block, laid anew. -/
def layRow (w : World) (g : Nat) (cs : Array Value) : World := { w with heap := w.heap.modify g fun
  | .cells _ t frozen => .cells cs t frozen
  | o => o }
end Go.Proofs.YtabkpoklihkifaaDoor
