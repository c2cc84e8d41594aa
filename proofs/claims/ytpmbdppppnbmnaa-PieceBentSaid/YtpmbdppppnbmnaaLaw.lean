/- From a contract of a law's function to what its row asks. Over any program. -/
import Derived.Test.YtpmbdppppnbmnaaAut
namespace Go.Proofs.Ytpmbdppppnbmnaa
open Go Go.RowKit
set_option linter.unusedVariables false
set_option linter.unusedSimpArgs false

/-- Every row that is there. -/
def AllB (W : World) : Nat → Prop := fun b => ∃ cur E fz, W.heap[b]? = some (.cells cur E fz)
theorem all_ok (W : World) : SOk W (AllB W) := fun _ h => h
theorem fc_law {P : Program} {G : Nat → Option D} {f : Nat} {ins : List D} (fc : FC P G f ins (.bool true) none) (W : World) (hG : GlOk G W (AllB W)) (vs : List Value) (hl : vs.length = ins.length) (h : ∀ (i : Nat) (d : D) (v : Value), ins[i]? = some d → vs[i]? = some v → RV W (AllB W) ρ0 H0 d v []) :
    Calls P f vs.toArray W (fun e W' => e = .returned (.bool true) ∧ Below W.heap.size W W') := by
  have hfl : ∀ n, (List.replicate n ([] : List Nat)).flatten = [] := fun n => by induction n <;> simp_all [List.replicate_succ]
  refine (fc W (AllB W) vs (List.replicate ins.length []) (all_ok W) hG hl (by simp) (fun i d v F h1 h2 h3 => ?_) (by rw [hfl]; simp) (by rw [hfl]; simp)).mono ?_
  · rw [List.getElem?_replicate] at h3
    split at h3
    · injection h3 with h3
      subst h3
      exact h i d v h1 h2
    · cases h3
  · rintro e W' ⟨v, F, Fo, S', rfl, q1, q2, q3, q4, q5, q6, _, _, _, q7, _⟩
    cases q7
    rw [hfl] at q6
    exact ⟨rfl, q1, q2, q3, q4, fun b hb => q6 b hb (by simp)⟩
/-- One value after the other. -/
theorem rv_nil {W : World} : ∀ (i : Nat) (d : D) (v : Value), ([] : List D)[i]? = some d → ([] : List Value)[i]? = some v → RV W (AllB W) ρ0 H0 d v [] := fun i d v h => by simp at h
theorem rv_cons {W : World} {d0 : D} {v0 : Value} {ds : List D} {vs : List Value} (h0 : RV W (AllB W) ρ0 H0 d0 v0 []) (h : ∀ (i : Nat) (d : D) (v : Value), ds[i]? = some d → vs[i]? = some v → RV W (AllB W) ρ0 H0 d v []) : ∀ (i : Nat) (d : D) (v : Value), (d0 :: ds)[i]? = some d → (v0 :: vs)[i]? = some v → RV W (AllB W) ρ0 H0 d v []
  | 0, d, v, h1, h2 => by injection h1 with h1; injection h2 with h2; subst h1; subst h2; exact h0
  | i + 1, d, v, h1, h2 => h i d v h1 h2
theorem rv_bytes {W : World} {A : Option Addr} {n cap : Nat} {l : List UInt8} (h : Rd W W.heap.size A n cap l) : RV W (AllB W) ρ0 H0 (.rob l) (.slice A n cap) [] := by
  refine .rob l A n cap ⟨h.len, h.le, h.max, fun hn => ?_⟩
  obtain ⟨b, off, e, hb, hc⟩ := h.cells hn
  refine ⟨b, off, e, ?_, hc⟩
  have h0 := hc 0 hn
  unfold World.cell? at h0
  revert h0
  rcases hh : W.heap[b]? with _ | o
  · simp
  · cases o with
    | cells cur E fz => intro _; exact ⟨cur, E, fz, hh⟩
    | _ => simp
theorem u8r {n : Int} (h : (Lit.int .u8 n).wf = true) : 0 ≤ n ∧ n ≤ 255 := by
  have h2 : inR .u8 n := by simpa [Lit.wf, inR, IntKind.has] using h
  simpa [inR, IntKind.min, IntKind.max, IntKind.signed, IntKind.bits] using h2
theorem rv_u8 {W : World} {n : Int} (h : (⟨.u8, n⟩ : IntKind × Int).1 = .u8 ∧ 0 ≤ n ∧ n ≤ 255) : RV W (AllB W) ρ0 H0 (.u8 (b8 n)) (.int .u8 n) [] := by
  have e : Value.int .u8 n = u8 (b8 n) := by
    unfold u8 b8
    congr 1
    simp
    omega
  rw [e]
  exact .u8 _
end Go.Proofs.Ytpmbdppppnbmnaa
