/- What the claim leans on, text Zqj: Args. No condition beyond what each lemma states. -/
import Derived.Test.YtkokcibnkcmcjaaDoorZd

/- What a law's arguments read as: rows of elements of any kind. Over any program. -/
namespace Go.Proofs.YtkokcibnkcmcjaaDoor
open Go Go.RowKit Go.ChangeShapes Go.WideShapes
set_option linter.unusedVariables false
set_option linter.unusedSimpArgs false

theorem arg_rof {α : Type} {P : Program} {T E : TypeId} (ht : P.underlying T = some (.slice E)) (s : Nat) (hcs : P.cellsOf E = s) (h0 : 0 < s) (g : α → Nat → D) (d0 : α) (hp : ∀ a j, j < s → (g a j).pf0 = true) {H : Type} {enc : TypeId × Value → H} {W : World} {base : Nat} {sp : Nat → Bool} {hd : Bool} {A : Option Addr} {n cap : Nat} {d : DataW H} {pl : List MemPlace}
    (each : ∀ (m : Nat) (cs : List Value) (y : DataW H × List MemPlace), cs.length = s → DataW.trod enc P W base sp hd m E cs = some y → ∃ a : α, ∀ j, j < s → ∃ u, cs[j]? = some u ∧ RV W (AllB W) ρ0 H0 (g a j) u [])
    (h : DataW.Trod enc P W base sp hd T (.slice A n cap) d pl) : ∃ ls : List α, ls.length = n ∧ RV W (AllB W) ρ0 H0 (.rof s n (fun i j => g (ls.getD i d0) j)) (.slice A n cap) [] := by
  obtain ⟨fuel, hf⟩ := h
  rcases DataW.trod_slice ht hf with ⟨hcs', _⟩ | ⟨a, len, cap', elems, rest, m, _, hcs', _, hb, hl, hm, hlen, hel, _, _⟩
  · simp [Value.cells] at hcs'
    obtain ⟨rfl, rfl, rfl⟩ := hcs'
    exact ⟨[], rfl, .rof s 0 _ none 0 0 0 (fun _ _ => undef) (Nat.le_refl _) (by simp [maxLen]) (fun i j hi => absurd hi (by omega)) (fun h => absurd h (by omega)) (fun i j hi => absurd hi (by omega)) (fun i j hi => absurd hi (by omega))⟩
  · simp [Value.cells] at hcs'
    obtain ⟨rfl, rfl, rfl⟩ := hcs'
    rw [hcs] at hel
    have each' : ∀ i, i < n → ∃ q : α × (Nat → Value), ∀ j, j < s → W.cell? ((a.add (i * s)).add j) = some (q.2 j) ∧ RV W (AllB W) ρ0 H0 (g q.1 j) (q.2 j) [] := fun i hi => by
      have hi' : i < elems.length := by omega
      have e := hel i hi
      rw [List.getElem?_eq_getElem hi', Option.bind_eq_some_iff] at e
      obtain ⟨cs, hcs1, htr⟩ := e
      obtain ⟨q1, q2, q3⟩ := World.cells?_some hcs1
      obtain ⟨x, hx⟩ := each m cs _ q2 htr
      refine ⟨(x, fun j => cs.getD j undef), fun j hj => ?_⟩
      obtain ⟨u, hu, hr⟩ := hx j hj
      have e2 : cs.getD j undef = u := by rw [List.getD_eq_getElem?_getD, hu]; rfl
      simp only [e2]
      exact ⟨(q3 j hj).trans hu, hr⟩
    obtain ⟨qs, hq1, hq2⟩ := list_ofN n ((d0, fun _ => undef) : α × (Nat → Value)) each'
    obtain ⟨b, off, spot⟩ := a
    have hspot : 0 < n → spot = none := fun hn => by
      have h1 := ((hq2 0 hn) 0 h0).1
      simpa [Addr.add] using World.cell?_spot h1
    refine ⟨qs.map (·.1), by simpa using hq1, .rof s n _ _ cap b off (fun i j => (qs.getD i (d0, fun _ => undef)).2 j) hl hm (fun _ j _ hj => hp _ j hj) (fun hn => ?_) (fun i j hi hj => ?_) (fun i j hi hj => ?_)⟩
    · have hs := hspot hn
      subst hs
      have h1 := (hq2 0 hn 0 h0).1
      rw [add_lit, add_lit] at h1
      exact ⟨rfl, rowB h1⟩
    · have hs := hspot (by omega)
      subst hs
      have h1 := (hq2 i hi j hj).1
      rw [add_lit, add_lit, Nat.add_assoc] at h1
      exact h1
    · have h1 := (hq2 i hi j hj).2
      have e : (qs.map (·.1)).getD i d0 = (qs.getD i (d0, fun _ => undef)).1 := by
        rw [List.getD_eq_getElem?_getD, List.getD_eq_getElem?_getD, List.getElem?_map, List.getElem?_eq_getElem (by omega)]
        rfl
      rw [e]
      exact h1
/-- A slice of truths. -/
theorem arg_bools {P : Program} {T E : TypeId} (ht : P.underlying T = some (.slice E)) (hE : P.underlying E = some .bool) (hc1 : P.cellsOf E = 1) {H : Type} {enc : TypeId × Value → H} {W : World} {base : Nat} {sp : Nat → Bool} {hd : Bool} {A : Option Addr} {n cap : Nat} {d : DataW H} {pl : List MemPlace}
    (h : DataW.Trod enc P W base sp hd T (.slice A n cap) d pl) : ∃ ls : List Bool, ls.length = n ∧ RV W (AllB W) ρ0 H0 (.rof 1 n (fun i _ => .bool (ls.getD i false))) (.slice A n cap) [] :=
  arg_rof ht 1 hc1 (by omega) (fun (b : Bool) _ => .bool b) false (fun _ _ _ => rfl) (fun m cs y hl hy => by
    obtain ⟨b, rfl, _⟩ := DataW.trod_bool hE hy
    refine ⟨b, fun j hj => ?_⟩
    obtain rfl : j = 0 := by omega
    exact ⟨_, rfl, .bool b⟩) h
end Go.Proofs.YtkokcibnkcmcjaaDoor
