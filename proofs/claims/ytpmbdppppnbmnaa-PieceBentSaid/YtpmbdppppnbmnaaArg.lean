/- What a law's arguments read as: rows of rows of bytes. Over any program. -/
import Derived.Test.YtpmbdppppnbmnaaLaw
import Derived.ChangeSlices
import Derived.ProofKit
import Derived.OpenShut
namespace Go.Proofs.Ytpmbdppppnbmnaa
open Go Go.RowKit Go.ChangeShapes Go.WideShapes
set_option linter.unusedVariables false
set_option linter.unusedSimpArgs false

theorem rowB {W : World} {b o : Nat} {v : Value} (h : W.cell? ⟨b, o, none⟩ = some v) : AllB W b := by
  unfold World.cell? at h
  revert h
  rcases hh : W.heap[b]? with _ | x
  · simp
  · cases x with
    | cells cur E fz => intro _; exact ⟨cur, E, fz, hh⟩
    | _ => simp
theorem list_ofN {α : Type} (n : Nat) {Q : Nat → α → Prop} (d : α) (h : ∀ i, i < n → ∃ a, Q i a) : ∃ l : List α, l.length = n ∧ ∀ i, i < n → Q i (l.getD i d) := by
  induction n with
  | zero => exact ⟨[], rfl, fun i hi => absurd hi (by omega)⟩
  | succ n ih =>
    obtain ⟨l, h1, h2⟩ := ih fun i hi => h i (by omega)
    obtain ⟨a, ha⟩ := h n (by omega)
    refine ⟨l ++ [a], by simp [h1], fun i hi => ?_⟩
    rw [List.getD_eq_getElem?_getD]
    rcases Nat.lt_or_ge i n with hi' | hi'
    · rw [List.getElem?_append_left (by omega), ← List.getD_eq_getElem?_getD]
      exact h2 i hi'
    · obtain rfl : i = n := by omega
      rw [List.getElem?_append_right (by omega), h1, Nat.sub_self]
      exact ha
theorem arg_rows {P : Program} {T E U : TypeId} (ht : P.underlying T = some (.slice E)) (bt : ByteTy P E U) (hc1 : P.cellsOf E = 1) {H : Type} {enc : TypeId × Value → H} {W : World} {base : Nat} {sp : Nat → Bool} {hd : Bool} {A : Option Addr} {n cap : Nat} {d : DataW H} {pl : List MemPlace}
    (h : DataW.Trod enc P W base sp hd T (.slice A n cap) d pl) : ∃ ls : List (List UInt8), ls.length = n ∧ RV W (AllB W) ρ0 H0 (.rof 1 n (fun i _ => .rob (ls.getD i []))) (.slice A n cap) [] := by
  obtain ⟨fuel, hf⟩ := h
  rcases DataW.trod_slice ht hf with ⟨hcs, _⟩ | ⟨a, len, cap', elems, rest, m, _, hcs, _, hb, hl, hm, hlen, hel, _, _⟩
  · simp [Value.cells] at hcs
    obtain ⟨rfl, rfl, rfl⟩ := hcs
    exact ⟨[], rfl, .rof 1 0 _ none 0 0 0 (fun _ _ => undef) (Nat.le_refl _) (by simp [maxLen]) (fun i j hi => absurd hi (by omega)) (fun h => absurd h (by omega)) (fun i j hi => absurd hi (by omega)) (fun i j hi => absurd hi (by omega))⟩
  · simp [Value.cells] at hcs
    obtain ⟨rfl, rfl, rfl⟩ := hcs
    rw [hc1] at hel
    have each : ∀ i, i < n → ∃ q : List UInt8 × Value, W.cell? (a.add i) = some q.2 ∧ RV W (AllB W) ρ0 H0 (.rob q.1) q.2 [] := fun i hi => by
      have hi' : i < elems.length := by omega
      have e := hel i hi
      rw [Nat.mul_one, List.getElem?_eq_getElem hi', Option.bind_eq_some_iff] at e
      obtain ⟨cs, hcs, htr⟩ := e
      rcases DataW.trod_slice bt.sl htr with ⟨rfl, hx⟩ | ⟨a2, len2, cap2, el2, rest2, m2, _, rfl, hx, _⟩
      · exact ⟨([], .slice none 0 0), cell_of_cells?_one hcs, .rob [] none 0 0 ⟨rfl, Nat.le_refl _, by simp [maxLen], fun h => absurd h (by omega)⟩⟩
      · have hT : DataW.Trod enc P W base sp hd E (.slice (some a2) len2 cap2) elems[i].1 elems[i].2 := ⟨m, by simpa [Value.cells] using htr⟩
        obtain ⟨l, hrd⟩ := arg_bytes bt hT
        exact ⟨(l, .slice (some a2) len2 cap2), cell_of_cells?_one hcs, rv_bytes hrd⟩
    obtain ⟨qs, hq1, hq2⟩ := list_ofN n (([], undef) : List UInt8 × Value) each
    obtain ⟨b, off, spot⟩ := a
    have hspot : 0 < n → spot = none := fun hn => by
      have h0 := (hq2 0 hn).1
      simpa [Addr.add] using World.cell?_spot h0
    refine ⟨qs.map (·.1), by simpa using hq1, .rof 1 n _ _ cap b off (fun i _ => (qs.getD i ([], undef)).2) hl hm (fun _ _ _ _ => rfl) (fun hn => ?_) (fun i j hi hj => ?_) (fun i j hi hj => ?_)⟩
    · have hs := hspot hn
      subst hs
      have h0 := (hq2 0 hn).1
      rw [add_lit] at h0
      exact ⟨rfl, rowB h0⟩
    · have hs := hspot (by omega)
      subst hs
      have h0 := (hq2 i hi).1
      rw [add_lit] at h0
      obtain rfl : j = 0 := by omega
      rw [Nat.mul_one, Nat.add_zero]
      exact h0
    · have h0 := (hq2 i hi).2
      have e : (qs.map (·.1)).getD i [] = (qs.getD i ([], undef)).1 := by
        rw [List.getD_eq_getElem?_getD, List.getD_eq_getElem?_getD, List.getElem?_map, List.getElem?_eq_getElem (by omega)]
        rfl
      rw [e]
      exact h0
/-- An array of bytes. -/
theorem okWide_arr {P : Program} {T E : TypeId} {n : Nat} {w : World} {r : Reach} {base : Nat} {v : Value} (ht : P.underlying T = some (.array n E)) (h : Value.okWide P w r base T v) : ∃ cs, v = .agg cs := by
  unfold Value.okWide at h
  rw [ht] at h
  cases v <;> simp_all
theorem arg_arr {P : Program} {T E : TypeId} {k : Nat} (ht : P.underlying T = some (.array k E)) (hE : P.underlying E = some (.int .u8)) (hc1 : P.cellsOf E = 1) (hC : P.cellsOf T = k) {H : Type} {enc : TypeId × Value → H} {W : World} {r : Reach} {base b0 : Nat} {sp : Nat → Bool} {hd : Bool} {v : Value} {d : DataW H} {pl : List MemPlace}
    (hv : Value.okWide P W r b0 T v) (h : DataW.Trod enc P W base sp hd T v d pl) : ∃ l : List UInt8, l.length = k ∧ v = .agg (u8s l).toArray := by
  obtain ⟨cs, rfl⟩ := okWide_arr ht hv
  obtain ⟨fuel, hf⟩ := h
  obtain ⟨xs, m, _, _, hl, hx, hel⟩ := DataW.trod_array ht hf
  rw [hc1] at hel
  have hcl : cs.toList.length = k := hl.trans hC
  obtain ⟨l, hl1, hl2⟩ := list_ofN (α := UInt8) k (Q := fun i x => cs.toList[i]? = some (u8 x)) 0 (fun i hi => by
    have e := hel i hi
    rw [Nat.mul_one, List.getElem?_eq_getElem (by omega)] at e
    have hc : (cs.toList.drop i).take 1 = [cs.toList[i]'(by omega)] := by
      rw [List.drop_eq_getElem_cons (by omega), List.take_succ_cons, List.take_zero]
    have e' : DataW.trod enc P W base sp hd m E [cs.toList[i]'(by omega)] = some (xs[i]'(by omega)) := by rw [← hc]; exact e
    obtain ⟨a, ea, _, wf⟩ := DataW.trod_int hE e'
    simp only [List.cons.injEq, and_true] at ea
    have hr := u8r wf
    refine ⟨b8 a, ?_⟩
    rw [List.getElem?_eq_getElem (by omega), ea, u8_b8 hr.1 hr.2])
  refine ⟨l, hl1, ?_⟩
  have : cs.toList = u8s l := by
    apply List.ext_getElem?
    intro i
    by_cases hi : i < k
    · rw [hl2 i hi]
      simp [u8s, List.getElem?_map, List.getElem?_eq_getElem (show i < l.length by omega), List.getD_eq_getElem?_getD]
    · rw [List.getElem?_eq_none (by omega), List.getElem?_eq_none (by simp [u8s]; omega)]
  rw [← this]
end Go.Proofs.Ytpmbdppppnbmnaa
