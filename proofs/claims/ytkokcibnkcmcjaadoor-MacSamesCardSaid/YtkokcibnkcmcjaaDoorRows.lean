/-
  NARROWER THAN 'FOR EVERY INPUT', by the rows' own cells (each row's printed sentence says how): HashOf: laid · HashLong: laid · OldOf: laid · HashGoes: laid · HashParts: laid · HashRows: laid · TollgateMarks: laid · MacOf: laid · MacSames: laid · MacExpands: laid · MacLabels: laid · MacDerives: laid · KeysSteps: laid · OldHides: laid · KeysExports: laid · OldMacs: laid · OldKeys: laid · KeysMarks: laid.
  DERIVED. THE GIVEN ROWS OF THIS SEAT. 18 by the template 'for every input the law returns true; each argument reads behind the call as it read before'; 0 by the template 'total and deterministic' (their statements: YtkokcibnkcmcjaaDoorTotals.lean).
  GIVEN WITH THE SEED: the statements are not yours to turn. If you find one false, say at which input.
  Laid BY PROGRAM, IN A SANDBOX (cutbox-rows.mjs): the forced cells as the released guide's own fill.sh prints them over the translation d47d1b913bd425f7… (all of the seat's roots in one cut). By AI agents, Wed Nov 11 2026. No macro, syntax, notation, axiom, sorry.
-/
import Derived.Test.YtkokcibnkcmcjaaDoorChecked
import GoSem.Claim
import GoSem.ClaimJoined
import GoSem.ClaimMapViews
import Derived.JoinedTies
import Derived.KernelRfl
namespace Go.Proofs.YtkokcibnkcmcjaaDoor
/- THE CELL 'sum', in the pinned program and in every row, IS THE sha256 OF THE DUMP (.gsa) THAT YtkokcibnkcmcjaaDoorProg.lean LOADS. Nothing in Lean hashes anything: it is a label: what it is worth is what the hold of that sum in a sandbox is worth. -/
noncomputable def Tryd.pinned : Pinned := { name := "ytkokcibnkcmcjaadoor", sum := "d47d1b913bd425f7e8f06e39a2c0c9f49c3ec77e3b7ba9139cfccc1096e42038", checked := Tryd.checked }
namespace Rows
def none {H : Type} : Left H := { results := [], args := [] }

/- WHAT THE LISTED PACKAGE-LEVEL VARIABLES READ AS WHEN THE CALL BEGINS. Each datum BY PROGRAM (the guide's laid-datum.mjs) off the statement by which the dump's own 'gosem.cut.vars' lays the variable. In a bare row this is a premise. The card (YtkokcibnkcmcjaaDoorCards.lean) ties it to the program's text. -/
def laid_tollgate_hash_start {H : Type} : DataW H := .agg [.lit (.int .u32 1779033703), .lit (.int .u32 3144134277), .lit (.int .u32 1013904242), .lit (.int .u32 2773480762), .lit (.int .u32 1359893119), .lit (.int .u32 2600822924), .lit (.int .u32 528734635), .lit (.int .u32 1541459225)]
def laid_tollgate_hash_rounds {H : Type} : DataW H := .agg [.lit (.int .u32 1116352408), .lit (.int .u32 1899447441), .lit (.int .u32 3049323471), .lit (.int .u32 3921009573), .lit (.int .u32 961987163), .lit (.int .u32 1508970993), .lit (.int .u32 2453635748), .lit (.int .u32 2870763221), .lit (.int .u32 3624381080), .lit (.int .u32 310598401), .lit (.int .u32 607225278), .lit (.int .u32 1426881987), .lit (.int .u32 1925078388), .lit (.int .u32 2162078206), .lit (.int .u32 2614888103), .lit (.int .u32 3248222580), .lit (.int .u32 3835390401), .lit (.int .u32 4022224774), .lit (.int .u32 264347078), .lit (.int .u32 604807628), .lit (.int .u32 770255983), .lit (.int .u32 1249150122), .lit (.int .u32 1555081692), .lit (.int .u32 1996064986), .lit (.int .u32 2554220882), .lit (.int .u32 2821834349), .lit (.int .u32 2952996808), .lit (.int .u32 3210313671), .lit (.int .u32 3336571891), .lit (.int .u32 3584528711), .lit (.int .u32 113926993), .lit (.int .u32 338241895), .lit (.int .u32 666307205), .lit (.int .u32 773529912), .lit (.int .u32 1294757372), .lit (.int .u32 1396182291), .lit (.int .u32 1695183700), .lit (.int .u32 1986661051), .lit (.int .u32 2177026350), .lit (.int .u32 2456956037), .lit (.int .u32 2730485921), .lit (.int .u32 2820302411), .lit (.int .u32 3259730800), .lit (.int .u32 3345764771), .lit (.int .u32 3516065817), .lit (.int .u32 3600352804), .lit (.int .u32 4094571909), .lit (.int .u32 275423344), .lit (.int .u32 430227734), .lit (.int .u32 506948616), .lit (.int .u32 659060556), .lit (.int .u32 883997877), .lit (.int .u32 958139571), .lit (.int .u32 1322822218), .lit (.int .u32 1537002063), .lit (.int .u32 1747873779), .lit (.int .u32 1955562222), .lit (.int .u32 2024104815), .lit (.int .u32 2227730452), .lit (.int .u32 2361852424), .lit (.int .u32 2428436474), .lit (.int .u32 2756734187), .lit (.int .u32 3204031479), .lit (.int .u32 3329325298)]
def laid_tollgate_old_sines {H : Type} : DataW H := .agg [.lit (.int .u32 3614090360), .lit (.int .u32 3905402710), .lit (.int .u32 606105819), .lit (.int .u32 3250441966), .lit (.int .u32 4118548399), .lit (.int .u32 1200080426), .lit (.int .u32 2821735955), .lit (.int .u32 4249261313), .lit (.int .u32 1770035416), .lit (.int .u32 2336552879), .lit (.int .u32 4294925233), .lit (.int .u32 2304563134), .lit (.int .u32 1804603682), .lit (.int .u32 4254626195), .lit (.int .u32 2792965006), .lit (.int .u32 1236535329), .lit (.int .u32 4129170786), .lit (.int .u32 3225465664), .lit (.int .u32 643717713), .lit (.int .u32 3921069994), .lit (.int .u32 3593408605), .lit (.int .u32 38016083), .lit (.int .u32 3634488961), .lit (.int .u32 3889429448), .lit (.int .u32 568446438), .lit (.int .u32 3275163606), .lit (.int .u32 4107603335), .lit (.int .u32 1163531501), .lit (.int .u32 2850285829), .lit (.int .u32 4243563512), .lit (.int .u32 1735328473), .lit (.int .u32 2368359562), .lit (.int .u32 4294588738), .lit (.int .u32 2272392833), .lit (.int .u32 1839030562), .lit (.int .u32 4259657740), .lit (.int .u32 2763975236), .lit (.int .u32 1272893353), .lit (.int .u32 4139469664), .lit (.int .u32 3200236656), .lit (.int .u32 681279174), .lit (.int .u32 3936430074), .lit (.int .u32 3572445317), .lit (.int .u32 76029189), .lit (.int .u32 3654602809), .lit (.int .u32 3873151461), .lit (.int .u32 530742520), .lit (.int .u32 3299628645), .lit (.int .u32 4096336452), .lit (.int .u32 1126891415), .lit (.int .u32 2878612391), .lit (.int .u32 4237533241), .lit (.int .u32 1700485571), .lit (.int .u32 2399980690), .lit (.int .u32 4293915773), .lit (.int .u32 2240044497), .lit (.int .u32 1873313359), .lit (.int .u32 4264355552), .lit (.int .u32 2734768916), .lit (.int .u32 1309151649), .lit (.int .u32 4149444226), .lit (.int .u32 3174756917), .lit (.int .u32 718787259), .lit (.int .u32 3951481745)]
def laid_tollgate_old_turns {H : Type} : DataW H := .agg [.lit (.int .i64 7), .lit (.int .i64 12), .lit (.int .i64 17), .lit (.int .i64 22), .lit (.int .i64 5), .lit (.int .i64 9), .lit (.int .i64 14), .lit (.int .i64 20), .lit (.int .i64 4), .lit (.int .i64 11), .lit (.int .i64 16), .lit (.int .i64 23), .lit (.int .i64 6), .lit (.int .i64 10), .lit (.int .i64 15), .lit (.int .i64 21)]

/-- 'tollgatelaw01.HashOf': WHATEVER THE INPUT: true; the input reads as it did. -/
def hashOfSpec : ChangeSpec := { name := "hashOf", fn := fun _ => fun
  | [d] => { results := [.lit (.bool true)], args := [d] }
  | _ => none }
def hashOfRow : OpenClaim := { program := "ytkokcibnkcmcjaadoor", sum := "d47d1b913bd425f7e8f06e39a2c0c9f49c3ec77e3b7ba9139cfccc1096e42038", func := "tollgate/tollgatelaw01.HashOf", spec := "hashOf", named := ["tollgate/hash.start", "tollgate/hash.rounds"], apart := false, laid := [("tollgate/hash.start", laid_tollgate_hash_start), ("tollgate/hash.rounds", laid_tollgate_hash_rounds)] }
def HashOfSaid : Prop := hashOfRow.holds Tryd.pinned (OpenSpec.ofChange hashOfSpec)

/-- ITS FALSE NEIGHBOUR: 'it returns false'. Refute it at one input. -/
def hashOfWrong : ChangeSpec := { name := "hashOf", fn := fun _ => fun
  | [d] => { results := [.lit (.bool false)], args := [d] }
  | _ => none }
def HashOfWrongFalsely : Prop := hashOfRow.holds Tryd.pinned (OpenSpec.ofChange hashOfWrong)

/-- 'tollgatelaw01.HashLong': WHATEVER THE INPUT: true; the input reads as it did. -/
def hashLongSpec : ChangeSpec := { name := "hashLong", fn := fun _ => fun
  | [d1, d2, d3] => { results := [.lit (.bool true)], args := [d1, d2, d3] }
  | _ => none }
def hashLongRow : OpenClaim := { program := "ytkokcibnkcmcjaadoor", sum := "d47d1b913bd425f7e8f06e39a2c0c9f49c3ec77e3b7ba9139cfccc1096e42038", func := "tollgate/tollgatelaw01.HashLong", spec := "hashLong", named := ["tollgate/hash.start", "tollgate/hash.rounds"], apart := false, laid := [("tollgate/hash.start", laid_tollgate_hash_start), ("tollgate/hash.rounds", laid_tollgate_hash_rounds)] }
def HashLongSaid : Prop := hashLongRow.holds Tryd.pinned (OpenSpec.ofChange hashLongSpec)

/-- ITS FALSE NEIGHBOUR: 'it returns false'. Refute it at one input. -/
def hashLongWrong : ChangeSpec := { name := "hashLong", fn := fun _ => fun
  | [d1, d2, d3] => { results := [.lit (.bool false)], args := [d1, d2, d3] }
  | _ => none }
def HashLongWrongFalsely : Prop := hashLongRow.holds Tryd.pinned (OpenSpec.ofChange hashLongWrong)

/-- 'tollgatelaw02.OldOf': WHATEVER THE INPUT: true; the input reads as it did. -/
def oldOfSpec : ChangeSpec := { name := "oldOf", fn := fun _ => fun
  | [d] => { results := [.lit (.bool true)], args := [d] }
  | _ => none }
def oldOfRow : OpenClaim := { program := "ytkokcibnkcmcjaadoor", sum := "d47d1b913bd425f7e8f06e39a2c0c9f49c3ec77e3b7ba9139cfccc1096e42038", func := "tollgate/tollgatelaw02.OldOf", spec := "oldOf", named := ["tollgate/old.sines", "tollgate/old.turns"], apart := false, laid := [("tollgate/old.sines", laid_tollgate_old_sines), ("tollgate/old.turns", laid_tollgate_old_turns)] }
def OldOfSaid : Prop := oldOfRow.holds Tryd.pinned (OpenSpec.ofChange oldOfSpec)

/-- ITS FALSE NEIGHBOUR: 'it returns false'. Refute it at one input. -/
def oldOfWrong : ChangeSpec := { name := "oldOf", fn := fun _ => fun
  | [d] => { results := [.lit (.bool false)], args := [d] }
  | _ => none }
def OldOfWrongFalsely : Prop := oldOfRow.holds Tryd.pinned (OpenSpec.ofChange oldOfWrong)

/-- 'tollgatelaw01.HashGoes': WHATEVER THE INPUT: true; the input reads as it did. -/
def hashGoesSpec : ChangeSpec := { name := "hashGoes", fn := fun _ => fun
  | [d1, d2] => { results := [.lit (.bool true)], args := [d1, d2] }
  | _ => none }
def hashGoesRow : OpenClaim := { program := "ytkokcibnkcmcjaadoor", sum := "d47d1b913bd425f7e8f06e39a2c0c9f49c3ec77e3b7ba9139cfccc1096e42038", func := "tollgate/tollgatelaw01.HashGoes", spec := "hashGoes", named := ["tollgate/hash.rounds", "tollgate/hash.start"], apart := false, laid := [("tollgate/hash.start", laid_tollgate_hash_start), ("tollgate/hash.rounds", laid_tollgate_hash_rounds)] }
def HashGoesSaid : Prop := hashGoesRow.holds Tryd.pinned (OpenSpec.ofChange hashGoesSpec)

/-- ITS FALSE NEIGHBOUR: 'it returns false'. Refute it at one input. -/
def hashGoesWrong : ChangeSpec := { name := "hashGoes", fn := fun _ => fun
  | [d1, d2] => { results := [.lit (.bool false)], args := [d1, d2] }
  | _ => none }
def HashGoesWrongFalsely : Prop := hashGoesRow.holds Tryd.pinned (OpenSpec.ofChange hashGoesWrong)

/-- 'tollgatelaw01.HashParts': WHATEVER THE INPUT: true; the input reads as it did. -/
def hashPartsSpec : ChangeSpec := { name := "hashParts", fn := fun _ => fun
  | [d1, d2, d3] => { results := [.lit (.bool true)], args := [d1, d2, d3] }
  | _ => none }
def hashPartsRow : OpenClaim := { program := "ytkokcibnkcmcjaadoor", sum := "d47d1b913bd425f7e8f06e39a2c0c9f49c3ec77e3b7ba9139cfccc1096e42038", func := "tollgate/tollgatelaw01.HashParts", spec := "hashParts", named := ["tollgate/hash.start", "tollgate/hash.rounds"], apart := false, laid := [("tollgate/hash.start", laid_tollgate_hash_start), ("tollgate/hash.rounds", laid_tollgate_hash_rounds)] }
def HashPartsSaid : Prop := hashPartsRow.holds Tryd.pinned (OpenSpec.ofChange hashPartsSpec)

/-- ITS FALSE NEIGHBOUR: 'it returns false'. Refute it at one input. -/
def hashPartsWrong : ChangeSpec := { name := "hashParts", fn := fun _ => fun
  | [d1, d2, d3] => { results := [.lit (.bool false)], args := [d1, d2, d3] }
  | _ => none }
def HashPartsWrongFalsely : Prop := hashPartsRow.holds Tryd.pinned (OpenSpec.ofChange hashPartsWrong)

/-- 'tollgatelaw01.HashRows': WHATEVER THE INPUT: true; the input reads as it did. -/
def hashRowsSpec : ChangeSpec := { name := "hashRows", fn := fun _ => fun
  | [d1, d2, d3] => { results := [.lit (.bool true)], args := [d1, d2, d3] }
  | _ => none }
def hashRowsRow : OpenClaim := { program := "ytkokcibnkcmcjaadoor", sum := "d47d1b913bd425f7e8f06e39a2c0c9f49c3ec77e3b7ba9139cfccc1096e42038", func := "tollgate/tollgatelaw01.HashRows", spec := "hashRows", named := ["tollgate/hash.start", "tollgate/hash.rounds"], apart := false, laid := [("tollgate/hash.start", laid_tollgate_hash_start), ("tollgate/hash.rounds", laid_tollgate_hash_rounds)] }
def HashRowsSaid : Prop := hashRowsRow.holds Tryd.pinned (OpenSpec.ofChange hashRowsSpec)

/-- ITS FALSE NEIGHBOUR: 'it returns false'. Refute it at one input. -/
def hashRowsWrong : ChangeSpec := { name := "hashRows", fn := fun _ => fun
  | [d1, d2, d3] => { results := [.lit (.bool false)], args := [d1, d2, d3] }
  | _ => none }
def HashRowsWrongFalsely : Prop := hashRowsRow.holds Tryd.pinned (OpenSpec.ofChange hashRowsWrong)

/-- 'tollgatetop.TollgateMarks': WHATEVER THE INPUT: true; the input reads as it did. -/
def tollgateMarksSpec : ChangeSpec := { name := "tollgateMarks", fn := fun _ => fun
  | [d1, d2] => { results := [.lit (.bool true)], args := [d1, d2] }
  | _ => none }
def tollgateMarksRow : OpenClaim := { program := "ytkokcibnkcmcjaadoor", sum := "d47d1b913bd425f7e8f06e39a2c0c9f49c3ec77e3b7ba9139cfccc1096e42038", func := "tollgate/tollgatetop.TollgateMarks", spec := "tollgateMarks", inPlace := ["internal/bytealg.MakeNoZero"], named := ["tollgate/hash.start", "tollgate/hash.rounds", "tollgate/old.sines", "tollgate/old.turns"], apart := false, laid := [("tollgate/hash.start", laid_tollgate_hash_start), ("tollgate/hash.rounds", laid_tollgate_hash_rounds), ("tollgate/old.sines", laid_tollgate_old_sines), ("tollgate/old.turns", laid_tollgate_old_turns)] }
def TollgateMarksSaid : Prop := tollgateMarksRow.holds Tryd.pinned (OpenSpec.ofChange tollgateMarksSpec)

/-- ITS FALSE NEIGHBOUR: 'it returns false'. Refute it at one input. -/
def tollgateMarksWrong : ChangeSpec := { name := "tollgateMarks", fn := fun _ => fun
  | [d1, d2] => { results := [.lit (.bool false)], args := [d1, d2] }
  | _ => none }
def TollgateMarksWrongFalsely : Prop := tollgateMarksRow.holds Tryd.pinned (OpenSpec.ofChange tollgateMarksWrong)

/-- 'tollgatelaw03.MacOf': WHATEVER THE INPUT: true; the input reads as it did. -/
def macOfSpec : ChangeSpec := { name := "macOf", fn := fun _ => fun
  | [d1, d2] => { results := [.lit (.bool true)], args := [d1, d2] }
  | _ => none }
def macOfRow : OpenClaim := { program := "ytkokcibnkcmcjaadoor", sum := "d47d1b913bd425f7e8f06e39a2c0c9f49c3ec77e3b7ba9139cfccc1096e42038", func := "tollgate/tollgatelaw03.MacOf", spec := "macOf", named := ["tollgate/hash.start", "tollgate/hash.rounds"], apart := false, laid := [("tollgate/hash.start", laid_tollgate_hash_start), ("tollgate/hash.rounds", laid_tollgate_hash_rounds)] }
def MacOfSaid : Prop := macOfRow.holds Tryd.pinned (OpenSpec.ofChange macOfSpec)

/-- ITS FALSE NEIGHBOUR: 'it returns false'. Refute it at one input. -/
def macOfWrong : ChangeSpec := { name := "macOf", fn := fun _ => fun
  | [d1, d2] => { results := [.lit (.bool false)], args := [d1, d2] }
  | _ => none }
def MacOfWrongFalsely : Prop := macOfRow.holds Tryd.pinned (OpenSpec.ofChange macOfWrong)

/-- 'tollgatelaw03.MacSames': WHATEVER THE INPUT: true; the input reads as it did. -/
def macSamesSpec : ChangeSpec := { name := "macSames", fn := fun _ => fun
  | [d1, d2, d3] => { results := [.lit (.bool true)], args := [d1, d2, d3] }
  | _ => none }
def macSamesRow : OpenClaim := { program := "ytkokcibnkcmcjaadoor", sum := "d47d1b913bd425f7e8f06e39a2c0c9f49c3ec77e3b7ba9139cfccc1096e42038", func := "tollgate/tollgatelaw03.MacSames", spec := "macSames", named := ["tollgate/hash.start", "tollgate/hash.rounds"], apart := false, laid := [("tollgate/hash.start", laid_tollgate_hash_start), ("tollgate/hash.rounds", laid_tollgate_hash_rounds)] }
def MacSamesSaid : Prop := macSamesRow.holds Tryd.pinned (OpenSpec.ofChange macSamesSpec)

/-- ITS FALSE NEIGHBOUR: 'it returns false'. Refute it at one input. -/
def macSamesWrong : ChangeSpec := { name := "macSames", fn := fun _ => fun
  | [d1, d2, d3] => { results := [.lit (.bool false)], args := [d1, d2, d3] }
  | _ => none }
def MacSamesWrongFalsely : Prop := macSamesRow.holds Tryd.pinned (OpenSpec.ofChange macSamesWrong)

/-- 'tollgatelaw03.MacExpands': WHATEVER THE INPUT: true; the input reads as it did. -/
def macExpandsSpec : ChangeSpec := { name := "macExpands", fn := fun _ => fun
  | [d1, d2, d3] => { results := [.lit (.bool true)], args := [d1, d2, d3] }
  | _ => none }
def macExpandsRow : OpenClaim := { program := "ytkokcibnkcmcjaadoor", sum := "d47d1b913bd425f7e8f06e39a2c0c9f49c3ec77e3b7ba9139cfccc1096e42038", func := "tollgate/tollgatelaw03.MacExpands", spec := "macExpands", named := ["tollgate/hash.start", "tollgate/hash.rounds"], apart := false, laid := [("tollgate/hash.start", laid_tollgate_hash_start), ("tollgate/hash.rounds", laid_tollgate_hash_rounds)] }
def MacExpandsSaid : Prop := macExpandsRow.holds Tryd.pinned (OpenSpec.ofChange macExpandsSpec)

/-- ITS FALSE NEIGHBOUR: 'it returns false'. Refute it at one input. -/
def macExpandsWrong : ChangeSpec := { name := "macExpands", fn := fun _ => fun
  | [d1, d2, d3] => { results := [.lit (.bool false)], args := [d1, d2, d3] }
  | _ => none }
def MacExpandsWrongFalsely : Prop := macExpandsRow.holds Tryd.pinned (OpenSpec.ofChange macExpandsWrong)

/-- 'tollgatelaw03.MacLabels': WHATEVER THE INPUT: true; the input reads as it did. -/
def macLabelsSpec : ChangeSpec := { name := "macLabels", fn := fun _ => fun
  | [d1, d2, d3] => { results := [.lit (.bool true)], args := [d1, d2, d3] }
  | _ => none }
def macLabelsRow : OpenClaim := { program := "ytkokcibnkcmcjaadoor", sum := "d47d1b913bd425f7e8f06e39a2c0c9f49c3ec77e3b7ba9139cfccc1096e42038", func := "tollgate/tollgatelaw03.MacLabels", spec := "macLabels", named := ["tollgate/hash.start", "tollgate/hash.rounds"], apart := false, laid := [("tollgate/hash.start", laid_tollgate_hash_start), ("tollgate/hash.rounds", laid_tollgate_hash_rounds)] }
def MacLabelsSaid : Prop := macLabelsRow.holds Tryd.pinned (OpenSpec.ofChange macLabelsSpec)

/-- ITS FALSE NEIGHBOUR: 'it returns false'. Refute it at one input. -/
def macLabelsWrong : ChangeSpec := { name := "macLabels", fn := fun _ => fun
  | [d1, d2, d3] => { results := [.lit (.bool false)], args := [d1, d2, d3] }
  | _ => none }
def MacLabelsWrongFalsely : Prop := macLabelsRow.holds Tryd.pinned (OpenSpec.ofChange macLabelsWrong)

/-- 'tollgatelaw03.MacDerives': WHATEVER THE INPUT: true; the input reads as it did. -/
def macDerivesSpec : ChangeSpec := { name := "macDerives", fn := fun _ => fun
  | [d1, d2, d3] => { results := [.lit (.bool true)], args := [d1, d2, d3] }
  | _ => none }
def macDerivesRow : OpenClaim := { program := "ytkokcibnkcmcjaadoor", sum := "d47d1b913bd425f7e8f06e39a2c0c9f49c3ec77e3b7ba9139cfccc1096e42038", func := "tollgate/tollgatelaw03.MacDerives", spec := "macDerives", named := ["tollgate/hash.start", "tollgate/hash.rounds"], apart := false, laid := [("tollgate/hash.start", laid_tollgate_hash_start), ("tollgate/hash.rounds", laid_tollgate_hash_rounds)] }
def MacDerivesSaid : Prop := macDerivesRow.holds Tryd.pinned (OpenSpec.ofChange macDerivesSpec)

/-- ITS FALSE NEIGHBOUR: 'it returns false'. Refute it at one input. -/
def macDerivesWrong : ChangeSpec := { name := "macDerives", fn := fun _ => fun
  | [d1, d2, d3] => { results := [.lit (.bool false)], args := [d1, d2, d3] }
  | _ => none }
def MacDerivesWrongFalsely : Prop := macDerivesRow.holds Tryd.pinned (OpenSpec.ofChange macDerivesWrong)

/-- 'tollgatelaw14.KeysSteps': WHATEVER THE INPUT: true; the input reads as it did. -/
def keysStepsSpec : ChangeSpec := { name := "keysSteps", fn := fun _ => fun
  | [d1, d2] => { results := [.lit (.bool true)], args := [d1, d2] }
  | _ => none }
def keysStepsRow : OpenClaim := { program := "ytkokcibnkcmcjaadoor", sum := "d47d1b913bd425f7e8f06e39a2c0c9f49c3ec77e3b7ba9139cfccc1096e42038", func := "tollgate/tollgatelaw14.KeysSteps", spec := "keysSteps", named := ["tollgate/hash.start", "tollgate/hash.rounds"], apart := false, laid := [("tollgate/hash.start", laid_tollgate_hash_start), ("tollgate/hash.rounds", laid_tollgate_hash_rounds)] }
def KeysStepsSaid : Prop := keysStepsRow.holds Tryd.pinned (OpenSpec.ofChange keysStepsSpec)

/-- ITS FALSE NEIGHBOUR: 'it returns false'. Refute it at one input. -/
def keysStepsWrong : ChangeSpec := { name := "keysSteps", fn := fun _ => fun
  | [d1, d2] => { results := [.lit (.bool false)], args := [d1, d2] }
  | _ => none }
def KeysStepsWrongFalsely : Prop := keysStepsRow.holds Tryd.pinned (OpenSpec.ofChange keysStepsWrong)

/-- 'tollgatelaw02.OldHides': WHATEVER THE INPUT: true; the input reads as it did. -/
def oldHidesSpec : ChangeSpec := { name := "oldHides", fn := fun _ => fun
  | [d1, d2, d3] => { results := [.lit (.bool true)], args := [d1, d2, d3] }
  | _ => none }
def oldHidesRow : OpenClaim := { program := "ytkokcibnkcmcjaadoor", sum := "d47d1b913bd425f7e8f06e39a2c0c9f49c3ec77e3b7ba9139cfccc1096e42038", func := "tollgate/tollgatelaw02.OldHides", spec := "oldHides", unfollowed := true, recurses := true, named := ["tollgate/old.sines", "tollgate/old.turns"], apart := false, laid := [("tollgate/old.sines", laid_tollgate_old_sines), ("tollgate/old.turns", laid_tollgate_old_turns)] }
def OldHidesSaid : Prop := oldHidesRow.holds Tryd.pinned (OpenSpec.ofChange oldHidesSpec)

/-- ITS FALSE NEIGHBOUR: 'it returns false'. Refute it at one input. -/
def oldHidesWrong : ChangeSpec := { name := "oldHides", fn := fun _ => fun
  | [d1, d2, d3] => { results := [.lit (.bool false)], args := [d1, d2, d3] }
  | _ => none }
def OldHidesWrongFalsely : Prop := oldHidesRow.holds Tryd.pinned (OpenSpec.ofChange oldHidesWrong)

/-- 'tollgatelaw14.KeysExports': WHATEVER THE INPUT: true; the input reads as it did. -/
def keysExportsSpec : ChangeSpec := { name := "keysExports", fn := fun _ => fun
  | [d1, d2, d3] => { results := [.lit (.bool true)], args := [d1, d2, d3] }
  | _ => none }
def keysExportsRow : OpenClaim := { program := "ytkokcibnkcmcjaadoor", sum := "d47d1b913bd425f7e8f06e39a2c0c9f49c3ec77e3b7ba9139cfccc1096e42038", func := "tollgate/tollgatelaw14.KeysExports", spec := "keysExports", named := ["tollgate/hash.start", "tollgate/hash.rounds"], apart := false, laid := [("tollgate/hash.start", laid_tollgate_hash_start), ("tollgate/hash.rounds", laid_tollgate_hash_rounds)] }
def KeysExportsSaid : Prop := keysExportsRow.holds Tryd.pinned (OpenSpec.ofChange keysExportsSpec)

/-- ITS FALSE NEIGHBOUR: 'it returns false'. Refute it at one input. -/
def keysExportsWrong : ChangeSpec := { name := "keysExports", fn := fun _ => fun
  | [d1, d2, d3] => { results := [.lit (.bool false)], args := [d1, d2, d3] }
  | _ => none }
def KeysExportsWrongFalsely : Prop := keysExportsRow.holds Tryd.pinned (OpenSpec.ofChange keysExportsWrong)

/-- 'tollgatelaw02.OldMacs': WHATEVER THE INPUT: true; the input reads as it did. -/
def oldMacsSpec : ChangeSpec := { name := "oldMacs", fn := fun _ => fun
  | [d1, d2] => { results := [.lit (.bool true)], args := [d1, d2] }
  | _ => none }
def oldMacsRow : OpenClaim := { program := "ytkokcibnkcmcjaadoor", sum := "d47d1b913bd425f7e8f06e39a2c0c9f49c3ec77e3b7ba9139cfccc1096e42038", func := "tollgate/tollgatelaw02.OldMacs", spec := "oldMacs", inPlace := ["internal/bytealg.MakeNoZero"], named := ["tollgate/old.sines", "tollgate/old.turns"], apart := false, laid := [("tollgate/old.sines", laid_tollgate_old_sines), ("tollgate/old.turns", laid_tollgate_old_turns)] }
def OldMacsSaid : Prop := oldMacsRow.holds Tryd.pinned (OpenSpec.ofChange oldMacsSpec)

/-- ITS FALSE NEIGHBOUR: 'it returns false'. Refute it at one input. -/
def oldMacsWrong : ChangeSpec := { name := "oldMacs", fn := fun _ => fun
  | [d1, d2] => { results := [.lit (.bool false)], args := [d1, d2] }
  | _ => none }
def OldMacsWrongFalsely : Prop := oldMacsRow.holds Tryd.pinned (OpenSpec.ofChange oldMacsWrong)

/-- 'tollgatelaw02.OldKeys': WHATEVER THE INPUT: true; the input reads as it did. -/
def oldKeysSpec : ChangeSpec := { name := "oldKeys", fn := fun _ => fun
  | [d1, d2, d3] => { results := [.lit (.bool true)], args := [d1, d2, d3] }
  | _ => none }
def oldKeysRow : OpenClaim := { program := "ytkokcibnkcmcjaadoor", sum := "d47d1b913bd425f7e8f06e39a2c0c9f49c3ec77e3b7ba9139cfccc1096e42038", func := "tollgate/tollgatelaw02.OldKeys", spec := "oldKeys", inPlace := ["internal/bytealg.MakeNoZero"], named := ["tollgate/old.sines", "tollgate/old.turns"], apart := false, laid := [("tollgate/old.sines", laid_tollgate_old_sines), ("tollgate/old.turns", laid_tollgate_old_turns)] }
def OldKeysSaid : Prop := oldKeysRow.holds Tryd.pinned (OpenSpec.ofChange oldKeysSpec)

/-- ITS FALSE NEIGHBOUR: 'it returns false'. Refute it at one input. -/
def oldKeysWrong : ChangeSpec := { name := "oldKeys", fn := fun _ => fun
  | [d1, d2, d3] => { results := [.lit (.bool false)], args := [d1, d2, d3] }
  | _ => none }
def OldKeysWrongFalsely : Prop := oldKeysRow.holds Tryd.pinned (OpenSpec.ofChange oldKeysWrong)

/-- 'tollgatelaw14.KeysMarks': WHATEVER THE INPUT: true; the input reads as it did. -/
def keysMarksSpec : ChangeSpec := { name := "keysMarks", fn := fun _ => fun
  | [d1, d2] => { results := [.lit (.bool true)], args := [d1, d2] }
  | _ => none }
def keysMarksRow : OpenClaim := { program := "ytkokcibnkcmcjaadoor", sum := "d47d1b913bd425f7e8f06e39a2c0c9f49c3ec77e3b7ba9139cfccc1096e42038", func := "tollgate/tollgatelaw14.KeysMarks", spec := "keysMarks", inPlace := ["internal/bytealg.MakeNoZero"], named := ["tollgate/hash.start", "tollgate/hash.rounds"], apart := false, laid := [("tollgate/hash.start", laid_tollgate_hash_start), ("tollgate/hash.rounds", laid_tollgate_hash_rounds)] }
def KeysMarksSaid : Prop := keysMarksRow.holds Tryd.pinned (OpenSpec.ofChange keysMarksSpec)

/-- ITS FALSE NEIGHBOUR: 'it returns false'. Refute it at one input. -/
def keysMarksWrong : ChangeSpec := { name := "keysMarks", fn := fun _ => fun
  | [d1, d2] => { results := [.lit (.bool false)], args := [d1, d2] }
  | _ => none }
def KeysMarksWrongFalsely : Prop := keysMarksRow.holds Tryd.pinned (OpenSpec.ofChange keysMarksWrong)

/- THE SECOND FORM. 'bulk': how many values and letters a reading holds, each counted each time it is reached (what is shared counts as often as it is met; a slice's spare places count too). A statement '..UptoSaid' is the law's where the arguments, and the package variables that the reading takes, are together of bulk at most 1048576: NARROWER than '..Said'. Prove '..Said' where nothing that the law and all that it calls make is longer than what came in: it says more and counts as full. Else prove '..UptoSaid'. A law counts once. -/
mutual
def uptoBulk {H : Type} : DataW H → Nat
  | .lit (.string bytes) => bytes.length + 1
  | .lit _ => 1
  | .nil => 1
  | .ptr d => uptoBulk d + 1
  | .slice elems spare => uptoBulkAll elems + uptoBulkAll spare + 1
  | .agg parts => uptoBulkAll parts + 1
  | .iface _ d => uptoBulk d + 1
  | .map entries => uptoBulkEntries entries + 1
  | .held _ => 1
def uptoBulkAll {H : Type} : List (DataW H) → Nat
  | [] => 0
  | d :: r => uptoBulk d + uptoBulkAll r
def uptoBulkEntries {H : Type} : List (Lit × DataW H) → Nat
  | [] => 0
  | x :: r => uptoBulkEntry x + uptoBulkEntries r
def uptoBulkEntry {H : Type} : Lit × DataW H → Nat
  | (.string bytes, d) => bytes.length + uptoBulk d + 1
  | (_, d) => uptoBulk d + 1
 end
def uptoSmall : (H : Type) → List (DataW H) → Bool := fun _ ds => decide (uptoBulkAll ds ≤ 1048576)
def OpenSpec.upto (s : _root_.Go.ChangeSpec) : _root_.Go.OpenSpec := { _root_.Go.OpenSpec.ofChange s with cond := some uptoSmall }

/-- 'tollgatelaw01.HashOf', WHERE WHAT IT READS IS OF BULK AT MOST 1048576: true; the input reads as it did. -/
def hashOfUptoRow : OpenClaim := { program := "ytkokcibnkcmcjaadoor", sum := "d47d1b913bd425f7e8f06e39a2c0c9f49c3ec77e3b7ba9139cfccc1096e42038", func := "tollgate/tollgatelaw01.HashOf", spec := "hashOf", named := ["tollgate/hash.start", "tollgate/hash.rounds"], apart := false, laid := [("tollgate/hash.start", laid_tollgate_hash_start), ("tollgate/hash.rounds", laid_tollgate_hash_rounds)], narrowed := true }
def HashOfUptoSaid : Prop := hashOfUptoRow.holds Tryd.pinned (OpenSpec.upto hashOfSpec)

/-- 'tollgatelaw01.HashLong', WHERE WHAT IT READS IS OF BULK AT MOST 1048576: true; the input reads as it did. -/
def hashLongUptoRow : OpenClaim := { program := "ytkokcibnkcmcjaadoor", sum := "d47d1b913bd425f7e8f06e39a2c0c9f49c3ec77e3b7ba9139cfccc1096e42038", func := "tollgate/tollgatelaw01.HashLong", spec := "hashLong", named := ["tollgate/hash.start", "tollgate/hash.rounds"], apart := false, laid := [("tollgate/hash.start", laid_tollgate_hash_start), ("tollgate/hash.rounds", laid_tollgate_hash_rounds)], narrowed := true }
def HashLongUptoSaid : Prop := hashLongUptoRow.holds Tryd.pinned (OpenSpec.upto hashLongSpec)

/-- 'tollgatelaw02.OldOf', WHERE WHAT IT READS IS OF BULK AT MOST 1048576: true; the input reads as it did. -/
def oldOfUptoRow : OpenClaim := { program := "ytkokcibnkcmcjaadoor", sum := "d47d1b913bd425f7e8f06e39a2c0c9f49c3ec77e3b7ba9139cfccc1096e42038", func := "tollgate/tollgatelaw02.OldOf", spec := "oldOf", named := ["tollgate/old.sines", "tollgate/old.turns"], apart := false, laid := [("tollgate/old.sines", laid_tollgate_old_sines), ("tollgate/old.turns", laid_tollgate_old_turns)], narrowed := true }
def OldOfUptoSaid : Prop := oldOfUptoRow.holds Tryd.pinned (OpenSpec.upto oldOfSpec)

/-- 'tollgatelaw01.HashGoes', WHERE WHAT IT READS IS OF BULK AT MOST 1048576: true; the input reads as it did. -/
def hashGoesUptoRow : OpenClaim := { program := "ytkokcibnkcmcjaadoor", sum := "d47d1b913bd425f7e8f06e39a2c0c9f49c3ec77e3b7ba9139cfccc1096e42038", func := "tollgate/tollgatelaw01.HashGoes", spec := "hashGoes", named := ["tollgate/hash.rounds", "tollgate/hash.start"], apart := false, laid := [("tollgate/hash.start", laid_tollgate_hash_start), ("tollgate/hash.rounds", laid_tollgate_hash_rounds)], narrowed := true }
def HashGoesUptoSaid : Prop := hashGoesUptoRow.holds Tryd.pinned (OpenSpec.upto hashGoesSpec)

/-- 'tollgatelaw01.HashParts', WHERE WHAT IT READS IS OF BULK AT MOST 1048576: true; the input reads as it did. -/
def hashPartsUptoRow : OpenClaim := { program := "ytkokcibnkcmcjaadoor", sum := "d47d1b913bd425f7e8f06e39a2c0c9f49c3ec77e3b7ba9139cfccc1096e42038", func := "tollgate/tollgatelaw01.HashParts", spec := "hashParts", named := ["tollgate/hash.start", "tollgate/hash.rounds"], apart := false, laid := [("tollgate/hash.start", laid_tollgate_hash_start), ("tollgate/hash.rounds", laid_tollgate_hash_rounds)], narrowed := true }
def HashPartsUptoSaid : Prop := hashPartsUptoRow.holds Tryd.pinned (OpenSpec.upto hashPartsSpec)

/-- 'tollgatelaw01.HashRows', WHERE WHAT IT READS IS OF BULK AT MOST 1048576: true; the input reads as it did. -/
def hashRowsUptoRow : OpenClaim := { program := "ytkokcibnkcmcjaadoor", sum := "d47d1b913bd425f7e8f06e39a2c0c9f49c3ec77e3b7ba9139cfccc1096e42038", func := "tollgate/tollgatelaw01.HashRows", spec := "hashRows", named := ["tollgate/hash.start", "tollgate/hash.rounds"], apart := false, laid := [("tollgate/hash.start", laid_tollgate_hash_start), ("tollgate/hash.rounds", laid_tollgate_hash_rounds)], narrowed := true }
def HashRowsUptoSaid : Prop := hashRowsUptoRow.holds Tryd.pinned (OpenSpec.upto hashRowsSpec)

/-- 'tollgatetop.TollgateMarks', WHERE WHAT IT READS IS OF BULK AT MOST 1048576: true; the input reads as it did. -/
def tollgateMarksUptoRow : OpenClaim := { program := "ytkokcibnkcmcjaadoor", sum := "d47d1b913bd425f7e8f06e39a2c0c9f49c3ec77e3b7ba9139cfccc1096e42038", func := "tollgate/tollgatetop.TollgateMarks", spec := "tollgateMarks", inPlace := ["internal/bytealg.MakeNoZero"], named := ["tollgate/hash.start", "tollgate/hash.rounds", "tollgate/old.sines", "tollgate/old.turns"], apart := false, laid := [("tollgate/hash.start", laid_tollgate_hash_start), ("tollgate/hash.rounds", laid_tollgate_hash_rounds), ("tollgate/old.sines", laid_tollgate_old_sines), ("tollgate/old.turns", laid_tollgate_old_turns)], narrowed := true }
def TollgateMarksUptoSaid : Prop := tollgateMarksUptoRow.holds Tryd.pinned (OpenSpec.upto tollgateMarksSpec)

/-- 'tollgatelaw03.MacOf', WHERE WHAT IT READS IS OF BULK AT MOST 1048576: true; the input reads as it did. -/
def macOfUptoRow : OpenClaim := { program := "ytkokcibnkcmcjaadoor", sum := "d47d1b913bd425f7e8f06e39a2c0c9f49c3ec77e3b7ba9139cfccc1096e42038", func := "tollgate/tollgatelaw03.MacOf", spec := "macOf", named := ["tollgate/hash.start", "tollgate/hash.rounds"], apart := false, laid := [("tollgate/hash.start", laid_tollgate_hash_start), ("tollgate/hash.rounds", laid_tollgate_hash_rounds)], narrowed := true }
def MacOfUptoSaid : Prop := macOfUptoRow.holds Tryd.pinned (OpenSpec.upto macOfSpec)

/-- 'tollgatelaw03.MacSames', WHERE WHAT IT READS IS OF BULK AT MOST 1048576: true; the input reads as it did. -/
def macSamesUptoRow : OpenClaim := { program := "ytkokcibnkcmcjaadoor", sum := "d47d1b913bd425f7e8f06e39a2c0c9f49c3ec77e3b7ba9139cfccc1096e42038", func := "tollgate/tollgatelaw03.MacSames", spec := "macSames", named := ["tollgate/hash.start", "tollgate/hash.rounds"], apart := false, laid := [("tollgate/hash.start", laid_tollgate_hash_start), ("tollgate/hash.rounds", laid_tollgate_hash_rounds)], narrowed := true }
def MacSamesUptoSaid : Prop := macSamesUptoRow.holds Tryd.pinned (OpenSpec.upto macSamesSpec)

/-- 'tollgatelaw03.MacExpands', WHERE WHAT IT READS IS OF BULK AT MOST 1048576: true; the input reads as it did. -/
def macExpandsUptoRow : OpenClaim := { program := "ytkokcibnkcmcjaadoor", sum := "d47d1b913bd425f7e8f06e39a2c0c9f49c3ec77e3b7ba9139cfccc1096e42038", func := "tollgate/tollgatelaw03.MacExpands", spec := "macExpands", named := ["tollgate/hash.start", "tollgate/hash.rounds"], apart := false, laid := [("tollgate/hash.start", laid_tollgate_hash_start), ("tollgate/hash.rounds", laid_tollgate_hash_rounds)], narrowed := true }
def MacExpandsUptoSaid : Prop := macExpandsUptoRow.holds Tryd.pinned (OpenSpec.upto macExpandsSpec)

/-- 'tollgatelaw03.MacLabels', WHERE WHAT IT READS IS OF BULK AT MOST 1048576: true; the input reads as it did. -/
def macLabelsUptoRow : OpenClaim := { program := "ytkokcibnkcmcjaadoor", sum := "d47d1b913bd425f7e8f06e39a2c0c9f49c3ec77e3b7ba9139cfccc1096e42038", func := "tollgate/tollgatelaw03.MacLabels", spec := "macLabels", named := ["tollgate/hash.start", "tollgate/hash.rounds"], apart := false, laid := [("tollgate/hash.start", laid_tollgate_hash_start), ("tollgate/hash.rounds", laid_tollgate_hash_rounds)], narrowed := true }
def MacLabelsUptoSaid : Prop := macLabelsUptoRow.holds Tryd.pinned (OpenSpec.upto macLabelsSpec)

/-- 'tollgatelaw03.MacDerives', WHERE WHAT IT READS IS OF BULK AT MOST 1048576: true; the input reads as it did. -/
def macDerivesUptoRow : OpenClaim := { program := "ytkokcibnkcmcjaadoor", sum := "d47d1b913bd425f7e8f06e39a2c0c9f49c3ec77e3b7ba9139cfccc1096e42038", func := "tollgate/tollgatelaw03.MacDerives", spec := "macDerives", named := ["tollgate/hash.start", "tollgate/hash.rounds"], apart := false, laid := [("tollgate/hash.start", laid_tollgate_hash_start), ("tollgate/hash.rounds", laid_tollgate_hash_rounds)], narrowed := true }
def MacDerivesUptoSaid : Prop := macDerivesUptoRow.holds Tryd.pinned (OpenSpec.upto macDerivesSpec)

/-- 'tollgatelaw14.KeysSteps', WHERE WHAT IT READS IS OF BULK AT MOST 1048576: true; the input reads as it did. -/
def keysStepsUptoRow : OpenClaim := { program := "ytkokcibnkcmcjaadoor", sum := "d47d1b913bd425f7e8f06e39a2c0c9f49c3ec77e3b7ba9139cfccc1096e42038", func := "tollgate/tollgatelaw14.KeysSteps", spec := "keysSteps", named := ["tollgate/hash.start", "tollgate/hash.rounds"], apart := false, laid := [("tollgate/hash.start", laid_tollgate_hash_start), ("tollgate/hash.rounds", laid_tollgate_hash_rounds)], narrowed := true }
def KeysStepsUptoSaid : Prop := keysStepsUptoRow.holds Tryd.pinned (OpenSpec.upto keysStepsSpec)

/-- 'tollgatelaw02.OldHides', WHERE WHAT IT READS IS OF BULK AT MOST 1048576: true; the input reads as it did. -/
def oldHidesUptoRow : OpenClaim := { program := "ytkokcibnkcmcjaadoor", sum := "d47d1b913bd425f7e8f06e39a2c0c9f49c3ec77e3b7ba9139cfccc1096e42038", func := "tollgate/tollgatelaw02.OldHides", spec := "oldHides", unfollowed := true, recurses := true, named := ["tollgate/old.sines", "tollgate/old.turns"], apart := false, laid := [("tollgate/old.sines", laid_tollgate_old_sines), ("tollgate/old.turns", laid_tollgate_old_turns)], narrowed := true }
def OldHidesUptoSaid : Prop := oldHidesUptoRow.holds Tryd.pinned (OpenSpec.upto oldHidesSpec)

/-- 'tollgatelaw14.KeysExports', WHERE WHAT IT READS IS OF BULK AT MOST 1048576: true; the input reads as it did. -/
def keysExportsUptoRow : OpenClaim := { program := "ytkokcibnkcmcjaadoor", sum := "d47d1b913bd425f7e8f06e39a2c0c9f49c3ec77e3b7ba9139cfccc1096e42038", func := "tollgate/tollgatelaw14.KeysExports", spec := "keysExports", named := ["tollgate/hash.start", "tollgate/hash.rounds"], apart := false, laid := [("tollgate/hash.start", laid_tollgate_hash_start), ("tollgate/hash.rounds", laid_tollgate_hash_rounds)], narrowed := true }
def KeysExportsUptoSaid : Prop := keysExportsUptoRow.holds Tryd.pinned (OpenSpec.upto keysExportsSpec)

/-- 'tollgatelaw02.OldMacs', WHERE WHAT IT READS IS OF BULK AT MOST 1048576: true; the input reads as it did. -/
def oldMacsUptoRow : OpenClaim := { program := "ytkokcibnkcmcjaadoor", sum := "d47d1b913bd425f7e8f06e39a2c0c9f49c3ec77e3b7ba9139cfccc1096e42038", func := "tollgate/tollgatelaw02.OldMacs", spec := "oldMacs", inPlace := ["internal/bytealg.MakeNoZero"], named := ["tollgate/old.sines", "tollgate/old.turns"], apart := false, laid := [("tollgate/old.sines", laid_tollgate_old_sines), ("tollgate/old.turns", laid_tollgate_old_turns)], narrowed := true }
def OldMacsUptoSaid : Prop := oldMacsUptoRow.holds Tryd.pinned (OpenSpec.upto oldMacsSpec)

/-- 'tollgatelaw02.OldKeys', WHERE WHAT IT READS IS OF BULK AT MOST 1048576: true; the input reads as it did. -/
def oldKeysUptoRow : OpenClaim := { program := "ytkokcibnkcmcjaadoor", sum := "d47d1b913bd425f7e8f06e39a2c0c9f49c3ec77e3b7ba9139cfccc1096e42038", func := "tollgate/tollgatelaw02.OldKeys", spec := "oldKeys", inPlace := ["internal/bytealg.MakeNoZero"], named := ["tollgate/old.sines", "tollgate/old.turns"], apart := false, laid := [("tollgate/old.sines", laid_tollgate_old_sines), ("tollgate/old.turns", laid_tollgate_old_turns)], narrowed := true }
def OldKeysUptoSaid : Prop := oldKeysUptoRow.holds Tryd.pinned (OpenSpec.upto oldKeysSpec)

/-- 'tollgatelaw14.KeysMarks', WHERE WHAT IT READS IS OF BULK AT MOST 1048576: true; the input reads as it did. -/
def keysMarksUptoRow : OpenClaim := { program := "ytkokcibnkcmcjaadoor", sum := "d47d1b913bd425f7e8f06e39a2c0c9f49c3ec77e3b7ba9139cfccc1096e42038", func := "tollgate/tollgatelaw14.KeysMarks", spec := "keysMarks", inPlace := ["internal/bytealg.MakeNoZero"], named := ["tollgate/hash.start", "tollgate/hash.rounds"], apart := false, laid := [("tollgate/hash.start", laid_tollgate_hash_start), ("tollgate/hash.rounds", laid_tollgate_hash_rounds)], narrowed := true }
def KeysMarksUptoSaid : Prop := keysMarksUptoRow.holds Tryd.pinned (OpenSpec.upto keysMarksSpec)

end Rows
end Go.Proofs.YtkokcibnkcmcjaaDoor
