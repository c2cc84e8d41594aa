/- What the claim leans on, text Zsl: ArgQ. No condition beyond what each lemma states. -/
import Derived.Test.YtocfhkmdkdjinaaDoorZd

/- What a law's argument reads as: two arrays of bytes side by side. Over any program. -/
namespace Go.Proofs.YtocfhkmdkdjinaaDoor
open Go Go.RowKit Go.ChangeShapes Go.WideShapes
set_option linter.unusedVariables false
set_option linter.unusedSimpArgs false
theorem arg_arr2 {P : Program} {T E U : TypeId} {m : Nat} (ht : P.underlying T = some (.array 2 E)) (hE : P.underlying E = some (.array m U)) (hU : P.underlying U = some (.int .u8)) (hc1 : P.cellsOf U = 1) (hcE : P.cellsOf E = m) (hcT : P.cellsOf T = 2 * m) {H : Type} {enc : TypeId × Value → H} {W : World} {r : Reach} {base b0 : Nat} {sp : Nat → Bool} {hd : Bool} {v : Value} {d : DataW H} {pl : List MemPlace}
    (hv : Value.okWide P W r b0 T v) (h : DataW.Trod enc P W base sp hd T v d pl) : ∃ l : List UInt8, l.length = 2 * m ∧ v = .agg (u8s l).toArray := by
  obtain ⟨cs, rfl⟩ := okWide_arr ht hv
  obtain ⟨fuel, hf⟩ := h
  obtain ⟨xs, k, _, _, hl, hx, hel⟩ := DataW.trod_array ht hf
  rw [hcE] at hel
  have hcl : cs.toList.length = 2 * m := hl.trans hcT
  have e0 := hel 0 (by omega)
  have e1 := hel 1 (by omega)
  rw [List.getElem?_eq_getElem (by omega), Nat.zero_mul] at e0
  rw [List.getElem?_eq_getElem (by omega), Nat.one_mul, show m = 0 + m by omega] at e1
  obtain ⟨l0, h0, c0⟩ := fld_arr hE hU hc1 hcE e0
  obtain ⟨l1, h1, c1⟩ := fld_arr hE hU hc1 hcE e1
  rw [show 0 + m = m by omega] at c1
  have hj : Cl W (l0.map D.u8 ++ l1.map D.u8) ((cs.toList.drop 0).take (m + m)) := Cl.join c0 (by rw [show 0 + m = m by omega]; exact c1)
  rw [List.drop_zero, List.take_of_length_le (by omega), ← List.map_append] at hj
  have e : cs.toList = u8s (l0 ++ l1) := vs_u8 (by rw [hcl, List.length_append]; omega) hj.2
  refine ⟨l0 ++ l1, by rw [List.length_append]; omega, ?_⟩
  rw [← e]
end Go.Proofs.YtocfhkmdkdjinaaDoor
