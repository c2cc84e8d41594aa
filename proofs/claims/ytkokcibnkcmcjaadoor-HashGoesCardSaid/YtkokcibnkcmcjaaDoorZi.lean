/- What the claim leans on, text Zi: ShO. No condition beyond what each lemma states. -/
import Derived.Test.YtkokcibnkcmcjaaDoorZt
import Derived.Test.YtkokcibnkcmcjaaDoorZf
import Derived.Test.YtkokcibnkcmcjaaDoorZd

/- Put and Of, of a few parts. -/
namespace Go.Proofs.YtkokcibnkcmcjaaDoor
open Go Go.RowKit
set_option linter.unusedVariables false
set_option linter.unusedSimpArgs false
set_option maxRecDepth 100000
set_option maxHeartbeats 4000000
attribute [local irreducible] inR VC RG VCn sq inS lq nq jq Wk
attribute [local irreducible] sha stH stW abs8
attribute [local simp] sha_length stC_len

theorem sha_take (l : List UInt8) : List.take 32 (sha l) = sha l := List.take_of_length_le (by rw [sha_length]; decide)
theorem flat_bound (e : Nat) : ∀ ps : List (List UInt8), (∀ x ∈ ps, x.length ≤ e) → ps.flatten.length ≤ ps.length * e
  | [], _ => by simp
  | x :: ps, h => by
    have h1 := h x (by simp)
    have h2 := flat_bound e ps (fun y hy => h y (by simp [hy]))
    rw [List.flatten_cons, List.length_append, List.length_cons, Nat.add_mul]
    omega
theorem fewL_flat (ls : List (List UInt8)) (m e : Nat) : (fewL ls m e).flatten.length ≤ m * e := by
  have h := flat_bound e (fewL ls m e) (fun x hx => by
    obtain ⟨y, _, rfl⟩ := List.mem_map.1 hx
    rw [List.length_take]
    omega)
  have h2 := fewL_len ls m e
  have h3 : (fewL ls m e).length * e ≤ m * e := Nat.mul_le_mul_right e (by omega)
  omega
theorem stC_fr (l : List UInt8) : (stC l).all D.fr0 = true := rfl
theorem Put1_fc (l p : List UInt8) (hb : l.length + p.length ≤ 100000000000) : FC Tryd.prog GS 27 [.ownp (stC l), .rof 1 [p].length (fun i _ => .rob ([p].getD i []))] (.tup []) (some (stC (l ++ p))) := by
  have h := Put_fc l [p] (by simp) (by simpa using hb)
  rw [show [p].flatten = p by simp] at h
  exact h
theorem Put2_fc (l p q : List UInt8) (hb : l.length + (p.length + q.length) ≤ 100000000000) : FC Tryd.prog GS 27 [.ownp (stC l), .rof 1 [p, q].length (fun i _ => .rob ([p, q].getD i []))] (.tup []) (some (stC (l ++ (p ++ q)))) := by
  have h := Put_fc l [p, q] (by simp) (by simpa using hb)
  rw [show [p, q].flatten = p ++ q by simp] at h
  exact h
theorem Of1_fc (p : List UInt8) (hb : p.length ≤ 100000000000) : FC Tryd.prog GS 22 [.rof 1 [p].length (fun i _ => .rob ([p].getD i []))] (.aggb (sha p)) none := by
  have h := Of_fc [p] (by simp) (by simpa using hb)
  rw [show [p].flatten = p by simp] at h
  exact h
theorem Of2_fc (p q : List UInt8) (hb : p.length + q.length ≤ 100000000000) : FC Tryd.prog GS 22 [.rof 1 [p, q].length (fun i _ => .rob ([p, q].getD i []))] (.aggb (sha (p ++ q))) none := by
  have h := Of_fc [p, q] (by simp) (by simpa using hb)
  rw [show [p, q].flatten = p ++ q by simp] at h
  exact h
theorem Of3_fc (p q r : List UInt8) (hb : p.length + (q.length + r.length) ≤ 100000000000) : FC Tryd.prog GS 22 [.rof 1 [p, q, r].length (fun i _ => .rob ([p, q, r].getD i []))] (.aggb (sha (p ++ (q ++ r)))) none := by
  have h := Of_fc [p, q, r] (by simp) (by simpa using hb)
  rw [show [p, q, r].flatten = p ++ (q ++ r) by simp] at h
  exact h

end Go.Proofs.YtkokcibnkcmcjaaDoor
