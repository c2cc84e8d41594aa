/- What the claim leans on, text Zsg: ArgP. No condition beyond what each lemma states. -/
import Derived.Test.YtocfhkmdkdjinaaDoorZd
import Derived.Test.YtocfhkmdkdjinaaDoorZra

/- What a law's arguments read as: slices of pairs of a number and a string. Over any program. -/
namespace Go.Proofs.YtocfhkmdkdjinaaDoor
open Go Go.RowKit Go.ChangeShapes Go.WideShapes
set_option linter.unusedVariables false
set_option linter.unusedSimpArgs false
section
variable {P : Program} {H : Type} {enc : TypeId × Value → H} {W : World} {base : Nat} {sp : Nat → Bool} {hd : Bool}
/-- A pair's cells. -/
def gS (a : Int × List UInt8) (j : Nat) : D :=
  match j with
  | 0 => .int .i64 a.1
  | _ => .str a.2
theorem gS_fS (L : List (Int × List UInt8)) : (fun i j => gS (L.getD i (0, [])) j) = fS L := by
  funext i j
  cases j <;> rfl
theorem arg_pairs {T E TI TS : TypeId} {fs : Array Field} (ht : P.underlying T = some (.slice E)) (hE : P.underlying E = some (.struct fs)) (hI : P.underlying TI = some (.int .i64)) (hS : P.underlying TS = some .string)
    (hc : P.cellsOf E = 2) (hcI : P.cellsOf TI = 1) (hcS : P.cellsOf TS = 1) (hf0 : ∃ f, fs[0]? = some f ∧ f.type = TI ∧ f.offset = 0) (hf1 : ∃ f, fs[1]? = some f ∧ f.type = TS ∧ f.offset = 1)
    {A : Option Addr} {n cap : Nat} {d : DataW H} {pl : List MemPlace} (h : DataW.Trod enc P W base sp hd T (.slice A n cap) d pl) :
    ∃ L : List (Int × List UInt8), L.length = n ∧ RV W (AllB W) ρ0 H0 (.rof 2 L.length (fS L)) (.slice A n cap) [] := by
  obtain ⟨L, hl, hr⟩ := arg_rof ht 2 hc (by omega) gS (0, []) (fun a j _ => by cases j <;> rfl) (fun m cs y hcl hy => by
    obtain ⟨xs, k, _, _, hl, hlen, hff⟩ := DataW.trod_struct hE hy
    obtain ⟨f0, g1, g2, g3⟩ := hf0
    obtain ⟨f1, q1, q2, q3⟩ := hf1
    have e0 := hff 0 f0 g1
    have e1 := hff 1 f1 q1
    subst g2 q2
    rw [g3, hcI] at e0
    rw [q3, hcS] at e1
    match cs, hcl with
    | [c0, c1], _ =>
    have h0 : 0 < xs.length := by rw [hlen]; exact (Array.getElem?_eq_some_iff.1 g1).1
    have h1 : 1 < xs.length := by rw [hlen]; exact (Array.getElem?_eq_some_iff.1 q1).1
    rw [List.getElem?_eq_getElem h0] at e0
    rw [List.getElem?_eq_getElem h1] at e1
    obtain ⟨a, ea, -⟩ := DataW.trod_int hI e0
    obtain ⟨b, eb, -⟩ := DataW.trod_string hS e1
    simp only [List.drop_zero, List.take_succ_cons, List.take_zero, List.cons.injEq, and_true] at ea
    simp only [List.drop_succ_cons, List.drop_zero, List.take_succ_cons, List.take_zero, List.cons.injEq, and_true] at eb
    subst ea eb
    refine ⟨(a, b.data.toList), fun j hj => ?_⟩
    rcases j with _ | j
    · exact ⟨_, rfl, .int _ _⟩
    · obtain rfl : j = 0 := by omega
      refine ⟨_, rfl, ?_⟩
      have e : Value.string b = .string (str b.data.toList) := by unfold str; simp
      rw [e]
      exact .str _) h
  rw [gS_fS] at hr
  subst hl
  exact ⟨L, rfl, hr⟩
theorem fld_pairs {T E TI TS : TypeId} {fs : Array Field} {m : Nat} {cs : List Value} {y : DataW H × List MemPlace} (ht : P.underlying T = some (.slice E)) (hE : P.underlying E = some (.struct fs)) (hI : P.underlying TI = some (.int .i64)) (hS : P.underlying TS = some .string)
    (hc : P.cellsOf E = 2) (hcI : P.cellsOf TI = 1) (hcS : P.cellsOf TS = 1) (h : DataW.trod enc P W base sp hd m T cs = some y)
    (hf0 : ∃ f, fs[0]? = some f ∧ f.type = TI ∧ f.offset = 0 := by exact ⟨_, rfl, rfl, rfl⟩) (hf1 : ∃ f, fs[1]? = some f ∧ f.type = TS ∧ f.offset = 1 := by exact ⟨_, rfl, rfl, rfl⟩) : ∃ L : List (Int × List UInt8), Cl W [.rof 2 L.length (fS L)] cs := by
  rcases DataW.trod_slice ht h with ⟨rfl, hx⟩ | ⟨a2, len2, cap2, el2, rest2, m2, _, rfl, hx, _⟩
  · refine ⟨[], .one (.rof 2 0 _ none 0 0 0 (fun _ _ => undef) (Nat.le_refl _) (by simp [maxLen]) (fun i j hi => absurd hi (by omega)) (fun h => absurd h (by omega)) (fun i j hi => absurd hi (by omega)) (fun i j hi => absurd hi (by omega)))⟩
  · have hT : DataW.Trod enc P W base sp hd T (.slice (some a2) len2 cap2) y.1 y.2 := ⟨m, by simpa [Value.cells] using h⟩
    obtain ⟨L, -, hrd⟩ := arg_pairs ht hE hI hS hc hcI hcS hf0 hf1 hT
    exact ⟨L, .one hrd⟩
end
end Go.Proofs.YtocfhkmdkdjinaaDoor
