/- What the claim leans on, text Zo: Md5. No condition beyond what each lemma states. -/
import Derived.Test.YtkokcibnkcmcjaaDoorZd
import Derived.Test.YtkokcibnkcmcjaaDoorZt
import Derived.Test.YtkokcibnkcmcjaaDoorZp

/- OldOf returns true. Printed by wp.py. -/
namespace Go.Proofs.YtkokcibnkcmcjaaDoor
open Go Go.RowKit
set_option linter.unusedVariables false
set_option linter.unusedSimpArgs false
set_option maxRecDepth 100000
set_option maxHeartbeats 4000000
attribute [local irreducible] inR VC RG VCn sq inS lq nq jq Wk
attribute [local irreducible] md
attribute [local simp] md_len

namespace UoldOf_fc
theorem U : type_of% @md_take ∧ type_of% @md_len ∧ type_of% (@drop_rep UInt8) ∧ type_of% (@drop_rep D) ∧ type_of% (@List.take_zero UInt8) ∧ type_of% (@List.take_zero D) := ⟨@md_take, @md_len, (@drop_rep UInt8), (@drop_rep D), (@List.take_zero UInt8), (@List.take_zero D)⟩
end UoldOf_fc
open UoldOf_fc
theorem oldOf_fc (ls : List (List UInt8)) : FC Tryd.prog GO 5 [.rof 1 ls.length (fun i _ => .rob (ls.getD i []))] (.bool true) none := by
  refine fi_ 18 [2] ti_eq gpO Tryd.func5 (fun C hE hm hP hrc hrn => ?_)
  have hfl := fewL_flat ls 10 300
  have hfn := fewL_len ls 10 300
  have few := (FewE_fc ls 10 300 (by decide) (by decide)).any (G := GO)
  have all := (AllE_fc (fewL ls 10 300) (by omega) (by omega)).any (G := GO)
  have of := oOf_fc (fewL ls 10 300) (by omega) (by omega)
  have sum := (rMd_fc (fewL ls 10 300).flatten (by omega)).any (G := GO)
  generalize fewL ls 10 300 = ps at *
  refine A_ ?_
  first | refine O_ ?_ | refine OD_ hm ?_
  refine G_ 200 hE ?_
  refine rc_ hE hP (few) Tryd.func21 ?_
  refine G_ 200 hE ?_
  first | refine rz ?_ | refine ZD_ ?_
  refine A_ ?_
  first | refine O_ ?_ | refine OD_ hm ?_
  refine G_ 200 hE ?_
  refine rc_ hE hP (of) Tryd.func29 ?_
  refine G_ 200 hE ?_
  first | refine rz ?_ | refine ZD_ ?_
  refine A_ ?_
  first | refine O_ ?_ | refine OD_ hm ?_
  refine G_ 200 hE ?_
  refine rc_ hE hP (olds_fc) Tryd.func30 ?_
  refine G_ 1 hE ?_
  refine GT_ hE (rfl) ?_
  refine GT_ hE (rfl) ?_
  refine GT_ hE (rfl) ?_
  refine rct_ hE hP (all) Tryd.func25 (rfl) ?_
  refine rct_ hE hP (sum) Tryd.func31 (rfl) ?_
  refine G_ 200 hE ?_
  first | refine rz ?_ | refine ZD_ ?_
  refine A_ ?_
  exact ret_
end Go.Proofs.YtkokcibnkcmcjaaDoor
