/- What the claim leans on, text Zi: ShO. No condition beyond what each lemma states. -/
import Derived.Test.YtkokcibnkcmcjaaDoorZt
import Derived.Test.YtkokcibnkcmcjaaDoorZf
import Derived.Test.YtkokcibnkcmcjaaDoorZd

/- Few rows; all that the laws of hash lean on. -/
namespace Go.Proofs.YtkokcibnkcmcjaaDoor
open Go Go.RowKit
set_option linter.unusedVariables false
set_option linter.unusedSimpArgs false
set_option maxRecDepth 100000
set_option maxHeartbeats 4000000
attribute [local irreducible] inR VC RG VCn sq inS lq nq jq Wk
attribute [local irreducible] sha stH stW abs8
attribute [local simp] sha_length stC_len

theorem flat_bound (e : Nat) : ∀ ps : List (List UInt8), (∀ x ∈ ps, x.length ≤ e) → ps.flatten.length ≤ ps.length * e
  | [], _ => by simp
  | x :: ps, h => by
    have h1 := h x (by simp)
    have h2 := flat_bound e ps (fun y hy => h y (by simp [hy]))
    rw [List.flatten_cons, List.length_append, List.length_cons, Nat.add_mul]
    omega
theorem fewL_flat (ls : List (List UInt8)) (m e : Nat) : (fewL ls m e).flatten.length ≤ m * e := by
  have h := flat_bound e (fewL ls m e) (fun x hx => by
    obtain ⟨y, _, rfl⟩ := List.mem_map.1 hx
    rw [List.length_take]
    omega)
  have h2 := fewL_len ls m e
  have h3 : (fewL ls m e).length * e ≤ m * e := Nat.mul_le_mul_right e (by omega)
  omega
end Go.Proofs.YtkokcibnkcmcjaaDoor
