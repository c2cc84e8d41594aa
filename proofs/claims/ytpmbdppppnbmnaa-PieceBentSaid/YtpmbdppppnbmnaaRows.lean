/-
  No cell of these rows narrows 'for every input' (looked for: loops, veiled, ifaces, maps, wideKeys, modest, calm, conditions, laid).
  DERIVED. THE GIVEN ROWS OF THIS SEAT. 6 by the template 'for every input the law returns true; each argument reads behind the call as it read before'; 0 by the template 'total and deterministic' (their statements: YtpmbdppppnbmnaaTotals.lean).
  GIVEN WITH THE SEED: the statements are not yours to turn. If you find one false, say at which input.
  Laid BY PROGRAM, IN A SANDBOX (cutbox-rows.mjs): the forced cells as the released guide's own fill.sh prints them over the translation afe1c01f1a375446… (all of the seat's roots in one cut). By AI agents, Wed Nov 11 2026. No macro, syntax, notation, axiom, sorry.
-/
import Derived.Test.YtpmbdppppnbmnaaChecked
import GoSem.Claim
import GoSem.ClaimJoined
import GoSem.ClaimMapViews
import Derived.JoinedTies
import Derived.KernelRfl
namespace Go.Proofs.Ytpmbdppppnbmnaa
/- THE CELL 'sum', in the pinned program and in every row, IS THE sha256 OF THE DUMP (.gsa) THAT YtpmbdppppnbmnaaProg.lean LOADS. Nothing in Lean hashes anything: it is a label: what it is worth is what the hold of that sum in a sandbox is worth. -/
noncomputable def Try.pinned : Pinned := { name := "ytpmbdppppnbmnaa", sum := "afe1c01f1a37544674ac86ee8eef9db052d562d6391afde4970e5965ed2ab61b", checked := Try.checked }
namespace Rows
def none {H : Type} : Left H := { results := [], args := [] }

/-- 'tollgatelaw17.PieceBig': WHATEVER THE INPUT: true; the input reads as it did. -/
def pieceBigSpec : ChangeSpec := { name := "pieceBig", fn := fun _ => fun
  | [d1, d2] => { results := [.lit (.bool true)], args := [d1, d2] }
  | _ => none }
def pieceBigRow : OpenClaim := { program := "ytpmbdppppnbmnaa", sum := "afe1c01f1a37544674ac86ee8eef9db052d562d6391afde4970e5965ed2ab61b", func := "tollgate/tollgatelaw17.PieceBig", spec := "pieceBig", unfollowed := true, recurses := true, apart := false }
def PieceBigSaid : Prop := pieceBigRow.holds Try.pinned (OpenSpec.ofChange pieceBigSpec)

/-- ITS FALSE NEIGHBOUR: 'it returns false'. Refute it at one input. -/
def pieceBigWrong : ChangeSpec := { name := "pieceBig", fn := fun _ => fun
  | [d1, d2] => { results := [.lit (.bool false)], args := [d1, d2] }
  | _ => none }
def PieceBigWrongFalsely : Prop := pieceBigRow.holds Try.pinned (OpenSpec.ofChange pieceBigWrong)

/-- 'tollgatelaw17.PieceCounts': WHATEVER THE INPUT: true; the input reads as it did. -/
def pieceCountsSpec : ChangeSpec := { name := "pieceCounts", fn := fun _ => fun
  | [d1, d2] => { results := [.lit (.bool true)], args := [d1, d2] }
  | _ => none }
def pieceCountsRow : OpenClaim := { program := "ytpmbdppppnbmnaa", sum := "afe1c01f1a37544674ac86ee8eef9db052d562d6391afde4970e5965ed2ab61b", func := "tollgate/tollgatelaw17.PieceCounts", spec := "pieceCounts", unfollowed := true, recurses := true, apart := false }
def PieceCountsSaid : Prop := pieceCountsRow.holds Try.pinned (OpenSpec.ofChange pieceCountsSpec)

/-- ITS FALSE NEIGHBOUR: 'it returns false'. Refute it at one input. -/
def pieceCountsWrong : ChangeSpec := { name := "pieceCounts", fn := fun _ => fun
  | [d1, d2] => { results := [.lit (.bool false)], args := [d1, d2] }
  | _ => none }
def PieceCountsWrongFalsely : Prop := pieceCountsRow.holds Try.pinned (OpenSpec.ofChange pieceCountsWrong)

/-- 'tollgatelaw17.PieceSplits': WHATEVER THE INPUT: true; the input reads as it did. -/
def pieceSplitsSpec : ChangeSpec := { name := "pieceSplits", fn := fun _ => fun
  | [d1, d2, d3] => { results := [.lit (.bool true)], args := [d1, d2, d3] }
  | _ => none }
def pieceSplitsRow : OpenClaim := { program := "ytpmbdppppnbmnaa", sum := "afe1c01f1a37544674ac86ee8eef9db052d562d6391afde4970e5965ed2ab61b", func := "tollgate/tollgatelaw17.PieceSplits", spec := "pieceSplits", unfollowed := true, recurses := true, apart := false }
def PieceSplitsSaid : Prop := pieceSplitsRow.holds Try.pinned (OpenSpec.ofChange pieceSplitsSpec)

/-- ITS FALSE NEIGHBOUR: 'it returns false'. Refute it at one input. -/
def pieceSplitsWrong : ChangeSpec := { name := "pieceSplits", fn := fun _ => fun
  | [d1, d2, d3] => { results := [.lit (.bool false)], args := [d1, d2, d3] }
  | _ => none }
def PieceSplitsWrongFalsely : Prop := pieceSplitsRow.holds Try.pinned (OpenSpec.ofChange pieceSplitsWrong)

/-- 'tollgatelaw17.PieceTakes': WHATEVER THE INPUT: true; the input reads as it did. -/
def pieceTakesSpec : ChangeSpec := { name := "pieceTakes", fn := fun _ => fun
  | [d] => { results := [.lit (.bool true)], args := [d] }
  | _ => none }
def pieceTakesRow : OpenClaim := { program := "ytpmbdppppnbmnaa", sum := "afe1c01f1a37544674ac86ee8eef9db052d562d6391afde4970e5965ed2ab61b", func := "tollgate/tollgatelaw17.PieceTakes", spec := "pieceTakes", unfollowed := true, recurses := true, apart := false }
def PieceTakesSaid : Prop := pieceTakesRow.holds Try.pinned (OpenSpec.ofChange pieceTakesSpec)

/-- ITS FALSE NEIGHBOUR: 'it returns false'. Refute it at one input. -/
def pieceTakesWrong : ChangeSpec := { name := "pieceTakes", fn := fun _ => fun
  | [d] => { results := [.lit (.bool false)], args := [d] }
  | _ => none }
def PieceTakesWrongFalsely : Prop := pieceTakesRow.holds Try.pinned (OpenSpec.ofChange pieceTakesWrong)

/-- 'tollgatelaw17.PieceBent': WHATEVER THE INPUT: true; the input reads as it did. -/
def pieceBentSpec : ChangeSpec := { name := "pieceBent", fn := fun _ => fun
  | [d1, d2, d3] => { results := [.lit (.bool true)], args := [d1, d2, d3] }
  | _ => none }
def pieceBentRow : OpenClaim := { program := "ytpmbdppppnbmnaa", sum := "afe1c01f1a37544674ac86ee8eef9db052d562d6391afde4970e5965ed2ab61b", func := "tollgate/tollgatelaw17.PieceBent", spec := "pieceBent", unfollowed := true, recurses := true, apart := false }
def PieceBentSaid : Prop := pieceBentRow.holds Try.pinned (OpenSpec.ofChange pieceBentSpec)

/-- ITS FALSE NEIGHBOUR: 'it returns false'. Refute it at one input. -/
def pieceBentWrong : ChangeSpec := { name := "pieceBent", fn := fun _ => fun
  | [d1, d2, d3] => { results := [.lit (.bool false)], args := [d1, d2, d3] }
  | _ => none }
def PieceBentWrongFalsely : Prop := pieceBentRow.holds Try.pinned (OpenSpec.ofChange pieceBentWrong)

/-- 'tollgatelaw17.PieceTwo': WHATEVER THE INPUT: true; the input reads as it did. -/
def pieceTwoSpec : ChangeSpec := { name := "pieceTwo", fn := fun _ => fun
  | [d1, d2, d3] => { results := [.lit (.bool true)], args := [d1, d2, d3] }
  | _ => none }
def pieceTwoRow : OpenClaim := { program := "ytpmbdppppnbmnaa", sum := "afe1c01f1a37544674ac86ee8eef9db052d562d6391afde4970e5965ed2ab61b", func := "tollgate/tollgatelaw17.PieceTwo", spec := "pieceTwo", unfollowed := true, recurses := true, apart := false }
def PieceTwoSaid : Prop := pieceTwoRow.holds Try.pinned (OpenSpec.ofChange pieceTwoSpec)

/-- ITS FALSE NEIGHBOUR: 'it returns false'. Refute it at one input. -/
def pieceTwoWrong : ChangeSpec := { name := "pieceTwo", fn := fun _ => fun
  | [d1, d2, d3] => { results := [.lit (.bool false)], args := [d1, d2, d3] }
  | _ => none }
def PieceTwoWrongFalsely : Prop := pieceTwoRow.holds Try.pinned (OpenSpec.ofChange pieceTwoWrong)

/- THE SECOND FORM. 'bulk': how many values and letters a reading holds, each counted each time it is reached (what is shared counts as often as it is met; a slice's spare places count too). A statement '..UptoSaid' is the law's where the arguments, and the package variables that the reading takes, are together of bulk at most 1048576: NARROWER than '..Said'. Prove '..Said' where nothing that the law and all that it calls make is longer than what came in: it says more and counts as full. Else prove '..UptoSaid'. A law counts once. -/
mutual
def uptoBulk {H : Type} : DataW H → Nat
  | .lit (.string bytes) => bytes.length + 1
  | .lit _ => 1
  | .nil => 1
  | .ptr d => uptoBulk d + 1
  | .slice elems spare => uptoBulkAll elems + uptoBulkAll spare + 1
  | .agg parts => uptoBulkAll parts + 1
  | .iface _ d => uptoBulk d + 1
  | .map entries => uptoBulkEntries entries + 1
  | .held _ => 1
def uptoBulkAll {H : Type} : List (DataW H) → Nat
  | [] => 0
  | d :: r => uptoBulk d + uptoBulkAll r
def uptoBulkEntries {H : Type} : List (Lit × DataW H) → Nat
  | [] => 0
  | x :: r => uptoBulkEntry x + uptoBulkEntries r
def uptoBulkEntry {H : Type} : Lit × DataW H → Nat
  | (.string bytes, d) => bytes.length + uptoBulk d + 1
  | (_, d) => uptoBulk d + 1
 end
def uptoSmall : (H : Type) → List (DataW H) → Bool := fun _ ds => decide (uptoBulkAll ds ≤ 1048576)
def OpenSpec.upto (s : _root_.Go.ChangeSpec) : _root_.Go.OpenSpec := { _root_.Go.OpenSpec.ofChange s with cond := some uptoSmall }

/-- 'tollgatelaw17.PieceBig', WHERE WHAT IT READS IS OF BULK AT MOST 1048576: true; the input reads as it did. -/
def pieceBigUptoRow : OpenClaim := { program := "ytpmbdppppnbmnaa", sum := "afe1c01f1a37544674ac86ee8eef9db052d562d6391afde4970e5965ed2ab61b", func := "tollgate/tollgatelaw17.PieceBig", spec := "pieceBig", unfollowed := true, recurses := true, apart := false, narrowed := true }
def PieceBigUptoSaid : Prop := pieceBigUptoRow.holds Try.pinned (OpenSpec.upto pieceBigSpec)

/-- 'tollgatelaw17.PieceCounts', WHERE WHAT IT READS IS OF BULK AT MOST 1048576: true; the input reads as it did. -/
def pieceCountsUptoRow : OpenClaim := { program := "ytpmbdppppnbmnaa", sum := "afe1c01f1a37544674ac86ee8eef9db052d562d6391afde4970e5965ed2ab61b", func := "tollgate/tollgatelaw17.PieceCounts", spec := "pieceCounts", unfollowed := true, recurses := true, apart := false, narrowed := true }
def PieceCountsUptoSaid : Prop := pieceCountsUptoRow.holds Try.pinned (OpenSpec.upto pieceCountsSpec)

/-- 'tollgatelaw17.PieceSplits', WHERE WHAT IT READS IS OF BULK AT MOST 1048576: true; the input reads as it did. -/
def pieceSplitsUptoRow : OpenClaim := { program := "ytpmbdppppnbmnaa", sum := "afe1c01f1a37544674ac86ee8eef9db052d562d6391afde4970e5965ed2ab61b", func := "tollgate/tollgatelaw17.PieceSplits", spec := "pieceSplits", unfollowed := true, recurses := true, apart := false, narrowed := true }
def PieceSplitsUptoSaid : Prop := pieceSplitsUptoRow.holds Try.pinned (OpenSpec.upto pieceSplitsSpec)

/-- 'tollgatelaw17.PieceTakes', WHERE WHAT IT READS IS OF BULK AT MOST 1048576: true; the input reads as it did. -/
def pieceTakesUptoRow : OpenClaim := { program := "ytpmbdppppnbmnaa", sum := "afe1c01f1a37544674ac86ee8eef9db052d562d6391afde4970e5965ed2ab61b", func := "tollgate/tollgatelaw17.PieceTakes", spec := "pieceTakes", unfollowed := true, recurses := true, apart := false, narrowed := true }
def PieceTakesUptoSaid : Prop := pieceTakesUptoRow.holds Try.pinned (OpenSpec.upto pieceTakesSpec)

/-- 'tollgatelaw17.PieceBent', WHERE WHAT IT READS IS OF BULK AT MOST 1048576: true; the input reads as it did. -/
def pieceBentUptoRow : OpenClaim := { program := "ytpmbdppppnbmnaa", sum := "afe1c01f1a37544674ac86ee8eef9db052d562d6391afde4970e5965ed2ab61b", func := "tollgate/tollgatelaw17.PieceBent", spec := "pieceBent", unfollowed := true, recurses := true, apart := false, narrowed := true }
def PieceBentUptoSaid : Prop := pieceBentUptoRow.holds Try.pinned (OpenSpec.upto pieceBentSpec)

/-- 'tollgatelaw17.PieceTwo', WHERE WHAT IT READS IS OF BULK AT MOST 1048576: true; the input reads as it did. -/
def pieceTwoUptoRow : OpenClaim := { program := "ytpmbdppppnbmnaa", sum := "afe1c01f1a37544674ac86ee8eef9db052d562d6391afde4970e5965ed2ab61b", func := "tollgate/tollgatelaw17.PieceTwo", spec := "pieceTwo", unfollowed := true, recurses := true, apart := false, narrowed := true }
def PieceTwoUptoSaid : Prop := pieceTwoUptoRow.holds Try.pinned (OpenSpec.upto pieceTwoSpec)

end Rows
end Go.Proofs.Ytpmbdppppnbmnaa
