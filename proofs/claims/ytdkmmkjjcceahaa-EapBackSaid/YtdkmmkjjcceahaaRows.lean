/-
  No cell of these rows narrows 'for every input' (looked for: loops, veiled, ifaces, maps, wideKeys, modest, calm, conditions, laid).
  DERIVED. THE GIVEN ROWS OF THIS SEAT. 5 by the template 'for every input the law returns true; each argument reads behind the call as it read before'; 0 by the template 'total and deterministic' (their statements: YtdkmmkjjcceahaaTotals.lean).
  GIVEN WITH THE SEED: the statements are not yours to turn. If you find one false, say at which input.
  Laid BY PROGRAM, IN A SANDBOX (cutbox-rows.mjs): the forced cells as the released guide's own fill.sh prints them over the translation 7809e756666aa827… (all of the seat's roots in one cut). By AI agents, Wed Nov 11 2026. No macro, syntax, notation, axiom, sorry.
-/
import Derived.Test.YtdkmmkjjcceahaaChecked
import GoSem.Claim
import GoSem.ClaimJoined
import GoSem.ClaimMapViews
import Derived.JoinedTies
import Derived.KernelRfl
namespace Go.Proofs.Ytdkmmkjjcceahaa
/- THE CELL 'sum', in the pinned program and in every row, IS THE sha256 OF THE DUMP (.gsa) THAT YtdkmmkjjcceahaaProg.lean LOADS. Nothing in Lean hashes anything: it is a label: what it is worth is what the hold of that sum in a sandbox is worth. -/
noncomputable def Try.pinned : Pinned := { name := "ytdkmmkjjcceahaa", sum := "7809e756666aa8271c2f26fda77231515cce537d6daf850d39ac777c087b9c3d", checked := Try.checked }
namespace Rows
def none {H : Type} : Left H := { results := [], args := [] }

/-- 'tollgatelaw16.EapWrites': WHATEVER THE INPUT: true; the input reads as it did. -/
def eapWritesSpec : ChangeSpec := { name := "eapWrites", fn := fun _ => fun
  | [d] => { results := [.lit (.bool true)], args := [d] }
  | _ => none }
def eapWritesRow : OpenClaim := { program := "ytdkmmkjjcceahaa", sum := "7809e756666aa8271c2f26fda77231515cce537d6daf850d39ac777c087b9c3d", func := "tollgate/tollgatelaw16.EapWrites", spec := "eapWrites", apart := false }
def EapWritesSaid : Prop := eapWritesRow.holds Try.pinned (OpenSpec.ofChange eapWritesSpec)

/-- ITS FALSE NEIGHBOUR: 'it returns false'. Refute it at one input. -/
def eapWritesWrong : ChangeSpec := { name := "eapWrites", fn := fun _ => fun
  | [d] => { results := [.lit (.bool false)], args := [d] }
  | _ => none }
def EapWritesWrongFalsely : Prop := eapWritesRow.holds Try.pinned (OpenSpec.ofChange eapWritesWrong)

/-- 'tollgatelaw16.EapLong': WHATEVER THE INPUT: true; the input reads as it did. -/
def eapLongSpec : ChangeSpec := { name := "eapLong", fn := fun _ => fun
  | [d1, d2] => { results := [.lit (.bool true)], args := [d1, d2] }
  | _ => none }
def eapLongRow : OpenClaim := { program := "ytdkmmkjjcceahaa", sum := "7809e756666aa8271c2f26fda77231515cce537d6daf850d39ac777c087b9c3d", func := "tollgate/tollgatelaw16.EapLong", spec := "eapLong", apart := false }
def EapLongSaid : Prop := eapLongRow.holds Try.pinned (OpenSpec.ofChange eapLongSpec)

/-- ITS FALSE NEIGHBOUR: 'it returns false'. Refute it at one input. -/
def eapLongWrong : ChangeSpec := { name := "eapLong", fn := fun _ => fun
  | [d1, d2] => { results := [.lit (.bool false)], args := [d1, d2] }
  | _ => none }
def EapLongWrongFalsely : Prop := eapLongRow.holds Try.pinned (OpenSpec.ofChange eapLongWrong)

/-- 'tollgatelaw16.EapEnds': WHATEVER THE INPUT: true; the input reads as it did. -/
def eapEndsSpec : ChangeSpec := { name := "eapEnds", fn := fun _ => fun
  | [d1, d2, d3] => { results := [.lit (.bool true)], args := [d1, d2, d3] }
  | _ => none }
def eapEndsRow : OpenClaim := { program := "ytdkmmkjjcceahaa", sum := "7809e756666aa8271c2f26fda77231515cce537d6daf850d39ac777c087b9c3d", func := "tollgate/tollgatelaw16.EapEnds", spec := "eapEnds", apart := false }
def EapEndsSaid : Prop := eapEndsRow.holds Try.pinned (OpenSpec.ofChange eapEndsSpec)

/-- ITS FALSE NEIGHBOUR: 'it returns false'. Refute it at one input. -/
def eapEndsWrong : ChangeSpec := { name := "eapEnds", fn := fun _ => fun
  | [d1, d2, d3] => { results := [.lit (.bool false)], args := [d1, d2, d3] }
  | _ => none }
def EapEndsWrongFalsely : Prop := eapEndsRow.holds Try.pinned (OpenSpec.ofChange eapEndsWrong)

/-- 'tollgatelaw16.EapReads': WHATEVER THE INPUT: true; the input reads as it did. -/
def eapReadsSpec : ChangeSpec := { name := "eapReads", fn := fun _ => fun
  | [d] => { results := [.lit (.bool true)], args := [d] }
  | _ => none }
def eapReadsRow : OpenClaim := { program := "ytdkmmkjjcceahaa", sum := "7809e756666aa8271c2f26fda77231515cce537d6daf850d39ac777c087b9c3d", func := "tollgate/tollgatelaw16.EapReads", spec := "eapReads", apart := false }
def EapReadsSaid : Prop := eapReadsRow.holds Try.pinned (OpenSpec.ofChange eapReadsSpec)

/-- ITS FALSE NEIGHBOUR: 'it returns false'. Refute it at one input. -/
def eapReadsWrong : ChangeSpec := { name := "eapReads", fn := fun _ => fun
  | [d] => { results := [.lit (.bool false)], args := [d] }
  | _ => none }
def EapReadsWrongFalsely : Prop := eapReadsRow.holds Try.pinned (OpenSpec.ofChange eapReadsWrong)

/-- 'tollgatelaw16.EapBack': WHATEVER THE INPUT: true; the input reads as it did. -/
def eapBackSpec : ChangeSpec := { name := "eapBack", fn := fun _ => fun
  | [d1, d2] => { results := [.lit (.bool true)], args := [d1, d2] }
  | _ => none }
def eapBackRow : OpenClaim := { program := "ytdkmmkjjcceahaa", sum := "7809e756666aa8271c2f26fda77231515cce537d6daf850d39ac777c087b9c3d", func := "tollgate/tollgatelaw16.EapBack", spec := "eapBack", apart := false }
def EapBackSaid : Prop := eapBackRow.holds Try.pinned (OpenSpec.ofChange eapBackSpec)

/-- ITS FALSE NEIGHBOUR: 'it returns false'. Refute it at one input. -/
def eapBackWrong : ChangeSpec := { name := "eapBack", fn := fun _ => fun
  | [d1, d2] => { results := [.lit (.bool false)], args := [d1, d2] }
  | _ => none }
def EapBackWrongFalsely : Prop := eapBackRow.holds Try.pinned (OpenSpec.ofChange eapBackWrong)

/- THE SECOND FORM. 'bulk': how many values and letters a reading holds, each counted each time it is reached (what is shared counts as often as it is met; a slice's spare places count too). A statement '..UptoSaid' is the law's where the arguments, and the package variables that the reading takes, are together of bulk at most 1048576: NARROWER than '..Said'. Prove '..Said' where nothing that the law and all that it calls make is longer than what came in: it says more and counts as full. Else prove '..UptoSaid'. A law counts once. -/
mutual
def uptoBulk {H : Type} : DataW H → Nat
  | .lit (.string bytes) => bytes.length + 1
  | .lit _ => 1
  | .nil => 1
  | .ptr d => uptoBulk d + 1
  | .slice elems spare => uptoBulkAll elems + uptoBulkAll spare + 1
  | .agg parts => uptoBulkAll parts + 1
  | .iface _ d => uptoBulk d + 1
  | .map entries => uptoBulkEntries entries + 1
  | .held _ => 1
def uptoBulkAll {H : Type} : List (DataW H) → Nat
  | [] => 0
  | d :: r => uptoBulk d + uptoBulkAll r
def uptoBulkEntries {H : Type} : List (Lit × DataW H) → Nat
  | [] => 0
  | x :: r => uptoBulkEntry x + uptoBulkEntries r
def uptoBulkEntry {H : Type} : Lit × DataW H → Nat
  | (.string bytes, d) => bytes.length + uptoBulk d + 1
  | (_, d) => uptoBulk d + 1
 end
def uptoSmall : (H : Type) → List (DataW H) → Bool := fun _ ds => decide (uptoBulkAll ds ≤ 1048576)
def OpenSpec.upto (s : _root_.Go.ChangeSpec) : _root_.Go.OpenSpec := { _root_.Go.OpenSpec.ofChange s with cond := some uptoSmall }

/-- 'tollgatelaw16.EapWrites', WHERE WHAT IT READS IS OF BULK AT MOST 1048576: true; the input reads as it did. -/
def eapWritesUptoRow : OpenClaim := { program := "ytdkmmkjjcceahaa", sum := "7809e756666aa8271c2f26fda77231515cce537d6daf850d39ac777c087b9c3d", func := "tollgate/tollgatelaw16.EapWrites", spec := "eapWrites", apart := false, narrowed := true }
def EapWritesUptoSaid : Prop := eapWritesUptoRow.holds Try.pinned (OpenSpec.upto eapWritesSpec)

/-- 'tollgatelaw16.EapLong', WHERE WHAT IT READS IS OF BULK AT MOST 1048576: true; the input reads as it did. -/
def eapLongUptoRow : OpenClaim := { program := "ytdkmmkjjcceahaa", sum := "7809e756666aa8271c2f26fda77231515cce537d6daf850d39ac777c087b9c3d", func := "tollgate/tollgatelaw16.EapLong", spec := "eapLong", apart := false, narrowed := true }
def EapLongUptoSaid : Prop := eapLongUptoRow.holds Try.pinned (OpenSpec.upto eapLongSpec)

/-- 'tollgatelaw16.EapEnds', WHERE WHAT IT READS IS OF BULK AT MOST 1048576: true; the input reads as it did. -/
def eapEndsUptoRow : OpenClaim := { program := "ytdkmmkjjcceahaa", sum := "7809e756666aa8271c2f26fda77231515cce537d6daf850d39ac777c087b9c3d", func := "tollgate/tollgatelaw16.EapEnds", spec := "eapEnds", apart := false, narrowed := true }
def EapEndsUptoSaid : Prop := eapEndsUptoRow.holds Try.pinned (OpenSpec.upto eapEndsSpec)

/-- 'tollgatelaw16.EapReads', WHERE WHAT IT READS IS OF BULK AT MOST 1048576: true; the input reads as it did. -/
def eapReadsUptoRow : OpenClaim := { program := "ytdkmmkjjcceahaa", sum := "7809e756666aa8271c2f26fda77231515cce537d6daf850d39ac777c087b9c3d", func := "tollgate/tollgatelaw16.EapReads", spec := "eapReads", apart := false, narrowed := true }
def EapReadsUptoSaid : Prop := eapReadsUptoRow.holds Try.pinned (OpenSpec.upto eapReadsSpec)

/-- 'tollgatelaw16.EapBack', WHERE WHAT IT READS IS OF BULK AT MOST 1048576: true; the input reads as it did. -/
def eapBackUptoRow : OpenClaim := { program := "ytdkmmkjjcceahaa", sum := "7809e756666aa8271c2f26fda77231515cce537d6daf850d39ac777c087b9c3d", func := "tollgate/tollgatelaw16.EapBack", spec := "eapBack", apart := false, narrowed := true }
def EapBackUptoSaid : Prop := eapBackUptoRow.holds Try.pinned (OpenSpec.upto eapBackSpec)

end Rows
end Go.Proofs.Ytdkmmkjjcceahaa
