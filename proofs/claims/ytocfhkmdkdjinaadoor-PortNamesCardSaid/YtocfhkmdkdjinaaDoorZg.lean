/- What the claim leans on, text Zg: TabS, TabO. No condition beyond what each lemma states. -/
import Derived.Test.YtocfhkmdkdjinaaDoorRows
import Derived.Test.YtocfhkmdkdjinaaDoorZe
import Derived.Test.YtocfhkmdkdjinaaDoorZd
import Derived.Lib.LaidTab
import Derived.Stop.LaidErr
import Derived.Test.YtocfhkmdkdjinaaDoorZq

/- What the rows' laid lists give: the tables of hash and old, as the abstract state reads them. -/
namespace Go.Proofs.YtocfhkmdkdjinaaDoor
open Go Go.RowKit Go.ChangeShapes Go.WideShapes
set_option linter.unusedVariables false
set_option linter.unusedSimpArgs false

theorem gStart : Tryd.prog.globalNamed "tollgate/hash.start" = some 0 := by kernel_rfl
theorem gRounds : Tryd.prog.globalNamed "tollgate/hash.rounds" = some 3 := by kernel_rfl
theorem gStartT : (Tryd.prog.globals[0]?).map (·.type) = some 172 := by kernel_rfl
theorem gRoundsT : (Tryd.prog.globals[3]?).map (·.type) = some 167 := by kernel_rfl
theorem c8u32 : Tryd.prog.cellsOf 172 = 8 := by kernel_rfl
theorem c64u32 : Tryd.prog.cellsOf 167 = 64 := by kernel_rfl
theorem c1u32 : Tryd.prog.cellsOf 160 = 1 := by kernel_rfl
def nums (l : List UInt32) : List Int := l.map fun x => (x.toNat : Int)
theorem nums_get (l : List UInt32) {i : Nat} (h : i < l.length) : (nums l).getD i 0 = ((l.getD i 0).toNat : Int) := by
  simp [nums, List.getD_eq_getElem?_getD, h]
theorem data_start {H : Type} : (Rows.laid_tollgate_hash_start : DataW H) = Lib.tabData .u32 (nums startL) := by rfl
theorem data_rounds {H : Type} : (Rows.laid_tollgate_hash_rounds : DataW H) = Lib.tabData .u32 (nums kt) := by rfl
theorem laidTail {P : Program} {x : String × DataW Unit} {rest : List (String × DataW Unit)} {W : World} (h : laidMet P (x :: rest) W) : laidMet P rest W := laidMet.tail h
/-- A table of words is there for the readers. -/
theorem rpf_tab {W : World} {g : Nat} {name : String} {l : List UInt32} (hg : Tryd.prog.globalNamed name = some g) (h : Lib.TabIs Tryd.prog W name .u32 (nums l)) (s n : Nat) (f : Nat → Nat → D) (hl : n * s = l.length) (h0 : 0 < l.length)
    (hf : ∀ i j, i < n → j < s → f i j = .u32 (l.getD (i * s + j) 0)) : NV W (AllB W) (.rpf 0 0 s n f) (.pointer (some ⟨g, 0, none⟩)) [] := by
  have hc : ∀ i, i < l.length → W.cell? ⟨g, i, none⟩ = some (.int .u32 ((l.getD i 0).toNat : Int)) := fun i hi => by
    rw [h.cell hg i (by simpa [nums] using hi), nums_get l hi]
  have hlt : ∀ i j, i < n → j < s → i * s + j < l.length := fun i j hi hj => by
    rw [← hl]
    calc i * s + j < i * s + s := by omega
      _ = (i + 1) * s := by rw [Nat.add_mul, Nat.one_mul]
      _ ≤ n * s := Nat.mul_le_mul_right s hi
  have := RV.rpf (w := W) (S := AllB W) (ρ := ρ0) (H := H0) 0 0 s n f g 0 (fun i j => .int .u32 ((l.getD (i * s + j) 0).toNat : Int)) (rowB (hc 0 h0)) (fun i j hi hj => by rw [hf i j hi hj]; rfl)
    (fun i j hi hj => by rw [Nat.zero_add]; exact hc _ (hlt i j hi hj)) (fun i j hi hj => by rw [hf i j hi hj]; exact .u32 _)
  rw [Nat.zero_mul] at this
  exact this
theorem glS {W : World} (h : laidMetH Tryd.prog [("tollgate/hash.start", Rows.laid_tollgate_hash_start), ("tollgate/hash.rounds", Rows.laid_tollgate_hash_rounds)] W) : GlOk GS W (AllB W) := by
  have h' : laidMet Tryd.prog [("tollgate/hash.start", Rows.laid_tollgate_hash_start), ("tollgate/hash.rounds", Rows.laid_tollgate_hash_rounds)] W := h
  rw [data_start, data_rounds] at h'
  have t0 := Lib.tabIs_of_head gStart gStartT Tryd.underlying172 Tryd.underlying160 c1u32 c8u32 h'
  have t1 := Lib.tabIs_of_head gRounds gRoundsT Tryd.underlying167 Tryd.underlying160 c1u32 c64u32 (laidTail h')
  intro g cs hg
  unfold GS at hg
  split at hg
  · injection hg with hg
    subst hg
    exact rpf_tab gStart t0 8 1 _ rfl (by decide) (fun i j hi hj => by
      obtain rfl : i = 0 := by omega
      rw [Nat.zero_mul, Nat.zero_add])
  · injection hg with hg
    subst hg
    exact rpf_tab gRounds t1 1 64 _ rfl (by decide) (fun i j hi hj => by
      obtain rfl : j = 0 := by omega
      rw [Nat.mul_one, Nat.add_zero]
      rfl)
  · cases hg
/-- A world's block, laid anew. -/
def layRow (w : World) (g : Nat) (cs : Array Value) : World := { w with heap := w.heap.modify g fun
  | .cells _ t frozen => .cells cs t frozen
  | o => o }
end Go.Proofs.YtocfhkmdkdjinaaDoor

/- What the rows' laid lists give: the tables of old. -/
namespace Go.Proofs.YtocfhkmdkdjinaaDoor
open Go Go.RowKit Go.ChangeShapes Go.WideShapes
set_option linter.unusedVariables false
set_option linter.unusedSimpArgs false

theorem gSines : Tryd.prog.globalNamed "tollgate/old.sines" = some 1 := by kernel_rfl
theorem gTurns : Tryd.prog.globalNamed "tollgate/old.turns" = some 2 := by kernel_rfl
theorem gSinesT : (Tryd.prog.globals[1]?).map (·.type) = some 167 := by kernel_rfl
theorem gTurnsT : (Tryd.prog.globals[2]?).map (·.type) = some 178 := by kernel_rfl
theorem c16int : Tryd.prog.cellsOf 178 = 16 := by kernel_rfl
theorem c1int : Tryd.prog.cellsOf 3 = 1 := by kernel_rfl
theorem data_sines {H : Type} : (Rows.laid_tollgate_old_sines : DataW H) = Lib.tabData .u32 (nums sinesL) := by rfl
theorem data_turns {H : Type} : (Rows.laid_tollgate_old_turns : DataW H) = Lib.tabData .i64 turnsL := by rfl
theorem rpf_tabI {W : World} {g : Nat} {name : String} {l : List Int} (hg : Tryd.prog.globalNamed name = some g) (h : Lib.TabIs Tryd.prog W name .i64 l) (n : Nat) (hl : n = l.length) (h0 : 0 < l.length) :
    NV W (AllB W) (.rpf 0 0 1 n (fun i _ => .int .i64 (l.getD i 0))) (.pointer (some ⟨g, 0, none⟩)) [] := by
  have hc : ∀ i, i < l.length → W.cell? ⟨g, i, none⟩ = some (.int .i64 (l.getD i 0)) := fun i hi => h.cell hg i hi
  have := RV.rpf (w := W) (S := AllB W) (ρ := ρ0) (H := H0) 0 0 1 n (fun i _ => .int .i64 (l.getD i 0)) g 0 (fun i j => .int .i64 (l.getD i 0)) (rowB (hc 0 h0)) (fun _ _ _ _ => rfl)
    (fun i j hi hj => by
      obtain rfl : j = 0 := by omega
      rw [Nat.zero_add, Nat.mul_one, Nat.add_zero]
      exact hc i (by omega)) (fun i j _ _ => .int _ _)
  exact this
theorem gl_sines {W : World} (t : Lib.TabIs Tryd.prog W "tollgate/old.sines" .u32 (nums sinesL)) : NV W (AllB W) (.rpf 0 0 64 1 (fun _ j => .u32 (sat j))) (.pointer (some ⟨1, 0, none⟩)) [] :=
  rpf_tab gSines t 64 1 _ rfl (by decide) (fun i j hi hj => by
    obtain rfl : i = 0 := by omega
    rw [Nat.zero_mul, Nat.zero_add]
    rfl)
theorem glO {W : World} (h : laidMetH Tryd.prog [("tollgate/old.sines", Rows.laid_tollgate_old_sines), ("tollgate/old.turns", Rows.laid_tollgate_old_turns)] W) : GlOk GO W (AllB W) := by
  have h' : laidMet Tryd.prog [("tollgate/old.sines", Rows.laid_tollgate_old_sines), ("tollgate/old.turns", Rows.laid_tollgate_old_turns)] W := h
  rw [data_sines, data_turns] at h'
  have t0 := Lib.tabIs_of_head gSines gSinesT Tryd.underlying167 Tryd.underlying160 c1u32 c64u32 h'
  have t1 := Lib.tabIs_of_head gTurns gTurnsT Tryd.underlying178 Tryd.underlying3 c1int c16int (laidTail h')
  intro g cs hg
  unfold GO at hg
  split at hg
  · injection hg with hg
    subst hg
    exact gl_sines t0
  · injection hg with hg
    subst hg
    exact rpf_tabI gTurns t1 16 rfl (by decide)
  · cases hg
/-- All four tables. -/
def GA (g : Nat) : Option D :=
  match g with
  | 0 => GS 0
  | 3 => GS 3
  | 1 => GO 1
  | 2 => GO 2
  | _ => none
theorem gpA : ∀ g cs, GA g = some cs → cs.pf0 = true := by
  intro g cs h
  unfold GA at h
  split at h <;> first | exact gpS _ _ h | exact gpO _ _ h | cases h
theorem GS_A : ∀ g c, GS g = some c → GA g = some c := by
  intro g c h
  unfold GS at h
  split at h <;> first | (rw [← h]; rfl) | cases h
theorem GO_A : ∀ g c, GO g = some c → GA g = some c := by
  intro g c h
  unfold GO at h
  split at h <;> first | (rw [← h]; rfl) | cases h
theorem glA {W : World} (h : laidMetH Tryd.prog [("tollgate/hash.start", Rows.laid_tollgate_hash_start), ("tollgate/hash.rounds", Rows.laid_tollgate_hash_rounds), ("tollgate/old.sines", Rows.laid_tollgate_old_sines), ("tollgate/old.turns", Rows.laid_tollgate_old_turns)] W) : GlOk GA W (AllB W) := by
  have h' : laidMet Tryd.prog [("tollgate/hash.start", Rows.laid_tollgate_hash_start), ("tollgate/hash.rounds", Rows.laid_tollgate_hash_rounds), ("tollgate/old.sines", Rows.laid_tollgate_old_sines), ("tollgate/old.turns", Rows.laid_tollgate_old_turns)] W := h
  rw [data_start, data_rounds, data_sines, data_turns] at h'
  have t0 := Lib.tabIs_of_head gStart gStartT Tryd.underlying172 Tryd.underlying160 c1u32 c8u32 h'
  have t1 := Lib.tabIs_of_head gRounds gRoundsT Tryd.underlying167 Tryd.underlying160 c1u32 c64u32 (laidTail h')
  have t2 := Lib.tabIs_of_head gSines gSinesT Tryd.underlying167 Tryd.underlying160 c1u32 c64u32 (laidTail (laidTail h'))
  have t3 := Lib.tabIs_of_head gTurns gTurnsT Tryd.underlying178 Tryd.underlying3 c1int c16int (laidTail (laidTail (laidTail h')))
  intro g cs hg
  unfold GA at hg
  split at hg
  · injection hg with hg
    subst hg
    exact rpf_tab gStart t0 8 1 _ rfl (by decide) (fun i j hi hj => by
      obtain rfl : i = 0 := by omega
      rw [Nat.zero_mul, Nat.zero_add])
  · injection hg with hg
    subst hg
    exact rpf_tab gRounds t1 1 64 _ rfl (by decide) (fun i j hi hj => by
      obtain rfl : j = 0 := by omega
      rw [Nat.mul_one, Nat.add_zero]
      rfl)
  · injection hg with hg
    subst hg
    exact gl_sines t2
  · injection hg with hg
    subst hg
    exact rpf_tabI gTurns t3 16 rfl (by decide)
  · cases hg
end Go.Proofs.YtocfhkmdkdjinaaDoor
