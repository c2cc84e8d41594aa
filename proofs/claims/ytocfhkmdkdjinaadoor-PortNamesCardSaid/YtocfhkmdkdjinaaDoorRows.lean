/-
  NARROWER THAN 'FOR EVERY INPUT', by the rows' own cells (each row's printed sentence says how): TollgateKeys: laid · WrapWraps: laid · WrapUnwraps: laid · WrapBent: laid · WrapSizes: laid · WrapSalts: laid · RadiusWrites: laid · RadiusRooms: laid · RadiusOpens: laid · RadiusSeals: laid · RadiusSplits: laid · PortTries: laid · PortNames: laid · PortIds: laid · PortShuts: laid · TollgateCarries: laid.
  DERIVED. THE GIVEN ROWS OF THIS SEAT. 16 by the template 'for every input the law returns true; each argument reads behind the call as it read before'; 0 by the template 'total and deterministic' (their statements: YtocfhkmdkdjinaaDoorTotals.lean).
  GIVEN WITH THE SEED: the statements are not yours to turn. If you find one false, say at which input.
  Laid BY PROGRAM, IN A SANDBOX (cutbox-rows.mjs): the forced cells as the released guide's own fill.sh prints them over the translation aa0b7d138bb741ac… (all of the seat's roots in one cut). By AI agents, Wed Nov 11 2026. No macro, syntax, notation, axiom, sorry.
-/
import Derived.Test.YtocfhkmdkdjinaaDoorChecked
import GoSem.Claim
import GoSem.ClaimJoined
import GoSem.ClaimMapViews
import Derived.JoinedTies
import Derived.KernelRfl
namespace Go.Proofs.YtocfhkmdkdjinaaDoor
/- THE CELL 'sum', in the pinned program and in every row, IS THE sha256 OF THE DUMP (.gsa) THAT YtocfhkmdkdjinaaDoorProg.lean LOADS. Nothing in Lean hashes anything: it is a label: what it is worth is what the hold of that sum in a sandbox is worth. -/
noncomputable def Tryd.pinned : Pinned := { name := "ytocfhkmdkdjinaadoor", sum := "aa0b7d138bb741ac63f054f714eaddd4bc216d534d00d73277da36d60e57f62d", checked := Tryd.checked }
namespace Rows
def none {H : Type} : Left H := { results := [], args := [] }

/- WHAT THE LISTED PACKAGE-LEVEL VARIABLES READ AS WHEN THE CALL BEGINS. Each datum BY PROGRAM (the guide's laid-datum.mjs) off the statement by which the dump's own 'gosem.cut.vars' lays the variable. In a bare row this is a premise. The card (YtocfhkmdkdjinaaDoorCards.lean) ties it to the program's text. -/
def laid_tollgate_hash_start {H : Type} : DataW H := .agg [.lit (.int .u32 1779033703), .lit (.int .u32 3144134277), .lit (.int .u32 1013904242), .lit (.int .u32 2773480762), .lit (.int .u32 1359893119), .lit (.int .u32 2600822924), .lit (.int .u32 528734635), .lit (.int .u32 1541459225)]
def laid_tollgate_hash_rounds {H : Type} : DataW H := .agg [.lit (.int .u32 1116352408), .lit (.int .u32 1899447441), .lit (.int .u32 3049323471), .lit (.int .u32 3921009573), .lit (.int .u32 961987163), .lit (.int .u32 1508970993), .lit (.int .u32 2453635748), .lit (.int .u32 2870763221), .lit (.int .u32 3624381080), .lit (.int .u32 310598401), .lit (.int .u32 607225278), .lit (.int .u32 1426881987), .lit (.int .u32 1925078388), .lit (.int .u32 2162078206), .lit (.int .u32 2614888103), .lit (.int .u32 3248222580), .lit (.int .u32 3835390401), .lit (.int .u32 4022224774), .lit (.int .u32 264347078), .lit (.int .u32 604807628), .lit (.int .u32 770255983), .lit (.int .u32 1249150122), .lit (.int .u32 1555081692), .lit (.int .u32 1996064986), .lit (.int .u32 2554220882), .lit (.int .u32 2821834349), .lit (.int .u32 2952996808), .lit (.int .u32 3210313671), .lit (.int .u32 3336571891), .lit (.int .u32 3584528711), .lit (.int .u32 113926993), .lit (.int .u32 338241895), .lit (.int .u32 666307205), .lit (.int .u32 773529912), .lit (.int .u32 1294757372), .lit (.int .u32 1396182291), .lit (.int .u32 1695183700), .lit (.int .u32 1986661051), .lit (.int .u32 2177026350), .lit (.int .u32 2456956037), .lit (.int .u32 2730485921), .lit (.int .u32 2820302411), .lit (.int .u32 3259730800), .lit (.int .u32 3345764771), .lit (.int .u32 3516065817), .lit (.int .u32 3600352804), .lit (.int .u32 4094571909), .lit (.int .u32 275423344), .lit (.int .u32 430227734), .lit (.int .u32 506948616), .lit (.int .u32 659060556), .lit (.int .u32 883997877), .lit (.int .u32 958139571), .lit (.int .u32 1322822218), .lit (.int .u32 1537002063), .lit (.int .u32 1747873779), .lit (.int .u32 1955562222), .lit (.int .u32 2024104815), .lit (.int .u32 2227730452), .lit (.int .u32 2361852424), .lit (.int .u32 2428436474), .lit (.int .u32 2756734187), .lit (.int .u32 3204031479), .lit (.int .u32 3329325298)]
def laid_tollgate_old_sines {H : Type} : DataW H := .agg [.lit (.int .u32 3614090360), .lit (.int .u32 3905402710), .lit (.int .u32 606105819), .lit (.int .u32 3250441966), .lit (.int .u32 4118548399), .lit (.int .u32 1200080426), .lit (.int .u32 2821735955), .lit (.int .u32 4249261313), .lit (.int .u32 1770035416), .lit (.int .u32 2336552879), .lit (.int .u32 4294925233), .lit (.int .u32 2304563134), .lit (.int .u32 1804603682), .lit (.int .u32 4254626195), .lit (.int .u32 2792965006), .lit (.int .u32 1236535329), .lit (.int .u32 4129170786), .lit (.int .u32 3225465664), .lit (.int .u32 643717713), .lit (.int .u32 3921069994), .lit (.int .u32 3593408605), .lit (.int .u32 38016083), .lit (.int .u32 3634488961), .lit (.int .u32 3889429448), .lit (.int .u32 568446438), .lit (.int .u32 3275163606), .lit (.int .u32 4107603335), .lit (.int .u32 1163531501), .lit (.int .u32 2850285829), .lit (.int .u32 4243563512), .lit (.int .u32 1735328473), .lit (.int .u32 2368359562), .lit (.int .u32 4294588738), .lit (.int .u32 2272392833), .lit (.int .u32 1839030562), .lit (.int .u32 4259657740), .lit (.int .u32 2763975236), .lit (.int .u32 1272893353), .lit (.int .u32 4139469664), .lit (.int .u32 3200236656), .lit (.int .u32 681279174), .lit (.int .u32 3936430074), .lit (.int .u32 3572445317), .lit (.int .u32 76029189), .lit (.int .u32 3654602809), .lit (.int .u32 3873151461), .lit (.int .u32 530742520), .lit (.int .u32 3299628645), .lit (.int .u32 4096336452), .lit (.int .u32 1126891415), .lit (.int .u32 2878612391), .lit (.int .u32 4237533241), .lit (.int .u32 1700485571), .lit (.int .u32 2399980690), .lit (.int .u32 4293915773), .lit (.int .u32 2240044497), .lit (.int .u32 1873313359), .lit (.int .u32 4264355552), .lit (.int .u32 2734768916), .lit (.int .u32 1309151649), .lit (.int .u32 4149444226), .lit (.int .u32 3174756917), .lit (.int .u32 718787259), .lit (.int .u32 3951481745)]
def laid_tollgate_old_turns {H : Type} : DataW H := .agg [.lit (.int .i64 7), .lit (.int .i64 12), .lit (.int .i64 17), .lit (.int .i64 22), .lit (.int .i64 5), .lit (.int .i64 9), .lit (.int .i64 14), .lit (.int .i64 20), .lit (.int .i64 4), .lit (.int .i64 11), .lit (.int .i64 16), .lit (.int .i64 23), .lit (.int .i64 6), .lit (.int .i64 10), .lit (.int .i64 15), .lit (.int .i64 21)]

/-- 'tollgatetop.TollgateKeys': WHATEVER THE INPUT: true; the input reads as it did. -/
def tollgateKeysSpec : ChangeSpec := { name := "tollgateKeys", fn := fun _ => fun
  | [d1, d2, d3] => { results := [.lit (.bool true)], args := [d1, d2, d3] }
  | _ => none }
def tollgateKeysRow : OpenClaim := { program := "ytocfhkmdkdjinaadoor", sum := "aa0b7d138bb741ac63f054f714eaddd4bc216d534d00d73277da36d60e57f62d", func := "tollgate/tollgatetop.TollgateKeys", spec := "tollgateKeys", inPlace := ["internal/bytealg.MakeNoZero"], unfollowed := true, recurses := true, named := ["tollgate/old.sines", "tollgate/old.turns", "tollgate/hash.start", "tollgate/hash.rounds"], apart := false, laid := [("tollgate/hash.start", laid_tollgate_hash_start), ("tollgate/hash.rounds", laid_tollgate_hash_rounds), ("tollgate/old.sines", laid_tollgate_old_sines), ("tollgate/old.turns", laid_tollgate_old_turns)] }
def TollgateKeysSaid : Prop := tollgateKeysRow.holds Tryd.pinned (OpenSpec.ofChange tollgateKeysSpec)

/-- ITS FALSE NEIGHBOUR: 'it returns false'. Refute it at one input. -/
def tollgateKeysWrong : ChangeSpec := { name := "tollgateKeys", fn := fun _ => fun
  | [d1, d2, d3] => { results := [.lit (.bool false)], args := [d1, d2, d3] }
  | _ => none }
def TollgateKeysWrongFalsely : Prop := tollgateKeysRow.holds Tryd.pinned (OpenSpec.ofChange tollgateKeysWrong)

/-- 'tollgatelaw20.WrapWraps': WHATEVER THE INPUT: true; the input reads as it did. -/
def wrapWrapsSpec : ChangeSpec := { name := "wrapWraps", fn := fun _ => fun
  | [d] => { results := [.lit (.bool true)], args := [d] }
  | _ => none }
def wrapWrapsRow : OpenClaim := { program := "ytocfhkmdkdjinaadoor", sum := "aa0b7d138bb741ac63f054f714eaddd4bc216d534d00d73277da36d60e57f62d", func := "tollgate/tollgatelaw20.WrapWraps", spec := "wrapWraps", unfollowed := true, recurses := true, named := ["tollgate/old.sines", "tollgate/old.turns"], apart := false, laid := [("tollgate/old.sines", laid_tollgate_old_sines), ("tollgate/old.turns", laid_tollgate_old_turns)] }
def WrapWrapsSaid : Prop := wrapWrapsRow.holds Tryd.pinned (OpenSpec.ofChange wrapWrapsSpec)

/-- ITS FALSE NEIGHBOUR: 'it returns false'. Refute it at one input. -/
def wrapWrapsWrong : ChangeSpec := { name := "wrapWraps", fn := fun _ => fun
  | [d] => { results := [.lit (.bool false)], args := [d] }
  | _ => none }
def WrapWrapsWrongFalsely : Prop := wrapWrapsRow.holds Tryd.pinned (OpenSpec.ofChange wrapWrapsWrong)

/-- 'tollgatelaw20.WrapUnwraps': WHATEVER THE INPUT: true; the input reads as it did. -/
def wrapUnwrapsSpec : ChangeSpec := { name := "wrapUnwraps", fn := fun _ => fun
  | [d1, d2, d3] => { results := [.lit (.bool true)], args := [d1, d2, d3] }
  | _ => none }
def wrapUnwrapsRow : OpenClaim := { program := "ytocfhkmdkdjinaadoor", sum := "aa0b7d138bb741ac63f054f714eaddd4bc216d534d00d73277da36d60e57f62d", func := "tollgate/tollgatelaw20.WrapUnwraps", spec := "wrapUnwraps", unfollowed := true, recurses := true, named := ["tollgate/old.sines", "tollgate/old.turns"], apart := false, laid := [("tollgate/old.sines", laid_tollgate_old_sines), ("tollgate/old.turns", laid_tollgate_old_turns)] }
def WrapUnwrapsSaid : Prop := wrapUnwrapsRow.holds Tryd.pinned (OpenSpec.ofChange wrapUnwrapsSpec)

/-- ITS FALSE NEIGHBOUR: 'it returns false'. Refute it at one input. -/
def wrapUnwrapsWrong : ChangeSpec := { name := "wrapUnwraps", fn := fun _ => fun
  | [d1, d2, d3] => { results := [.lit (.bool false)], args := [d1, d2, d3] }
  | _ => none }
def WrapUnwrapsWrongFalsely : Prop := wrapUnwrapsRow.holds Tryd.pinned (OpenSpec.ofChange wrapUnwrapsWrong)

/-- 'tollgatelaw20.WrapBent': WHATEVER THE INPUT: true; the input reads as it did. -/
def wrapBentSpec : ChangeSpec := { name := "wrapBent", fn := fun _ => fun
  | [d1, d2, d3] => { results := [.lit (.bool true)], args := [d1, d2, d3] }
  | _ => none }
def wrapBentRow : OpenClaim := { program := "ytocfhkmdkdjinaadoor", sum := "aa0b7d138bb741ac63f054f714eaddd4bc216d534d00d73277da36d60e57f62d", func := "tollgate/tollgatelaw20.WrapBent", spec := "wrapBent", unfollowed := true, recurses := true, named := ["tollgate/old.sines", "tollgate/old.turns"], apart := false, laid := [("tollgate/old.sines", laid_tollgate_old_sines), ("tollgate/old.turns", laid_tollgate_old_turns)] }
def WrapBentSaid : Prop := wrapBentRow.holds Tryd.pinned (OpenSpec.ofChange wrapBentSpec)

/-- ITS FALSE NEIGHBOUR: 'it returns false'. Refute it at one input. -/
def wrapBentWrong : ChangeSpec := { name := "wrapBent", fn := fun _ => fun
  | [d1, d2, d3] => { results := [.lit (.bool false)], args := [d1, d2, d3] }
  | _ => none }
def WrapBentWrongFalsely : Prop := wrapBentRow.holds Tryd.pinned (OpenSpec.ofChange wrapBentWrong)

/-- 'tollgatelaw20.WrapSizes': WHATEVER THE INPUT: true; the input reads as it did. -/
def wrapSizesSpec : ChangeSpec := { name := "wrapSizes", fn := fun _ => fun
  | [d1, d2] => { results := [.lit (.bool true)], args := [d1, d2] }
  | _ => none }
def wrapSizesRow : OpenClaim := { program := "ytocfhkmdkdjinaadoor", sum := "aa0b7d138bb741ac63f054f714eaddd4bc216d534d00d73277da36d60e57f62d", func := "tollgate/tollgatelaw20.WrapSizes", spec := "wrapSizes", unfollowed := true, recurses := true, named := ["tollgate/old.sines", "tollgate/old.turns"], apart := false, laid := [("tollgate/old.sines", laid_tollgate_old_sines), ("tollgate/old.turns", laid_tollgate_old_turns)] }
def WrapSizesSaid : Prop := wrapSizesRow.holds Tryd.pinned (OpenSpec.ofChange wrapSizesSpec)

/-- ITS FALSE NEIGHBOUR: 'it returns false'. Refute it at one input. -/
def wrapSizesWrong : ChangeSpec := { name := "wrapSizes", fn := fun _ => fun
  | [d1, d2] => { results := [.lit (.bool false)], args := [d1, d2] }
  | _ => none }
def WrapSizesWrongFalsely : Prop := wrapSizesRow.holds Tryd.pinned (OpenSpec.ofChange wrapSizesWrong)

/-- 'tollgatelaw20.WrapSalts': WHATEVER THE INPUT: true; the input reads as it did. -/
def wrapSaltsSpec : ChangeSpec := { name := "wrapSalts", fn := fun _ => fun
  | [d1, d2, d3] => { results := [.lit (.bool true)], args := [d1, d2, d3] }
  | _ => none }
def wrapSaltsRow : OpenClaim := { program := "ytocfhkmdkdjinaadoor", sum := "aa0b7d138bb741ac63f054f714eaddd4bc216d534d00d73277da36d60e57f62d", func := "tollgate/tollgatelaw20.WrapSalts", spec := "wrapSalts", unfollowed := true, recurses := true, named := ["tollgate/old.sines", "tollgate/old.turns"], apart := false, laid := [("tollgate/old.sines", laid_tollgate_old_sines), ("tollgate/old.turns", laid_tollgate_old_turns)] }
def WrapSaltsSaid : Prop := wrapSaltsRow.holds Tryd.pinned (OpenSpec.ofChange wrapSaltsSpec)

/-- ITS FALSE NEIGHBOUR: 'it returns false'. Refute it at one input. -/
def wrapSaltsWrong : ChangeSpec := { name := "wrapSalts", fn := fun _ => fun
  | [d1, d2, d3] => { results := [.lit (.bool false)], args := [d1, d2, d3] }
  | _ => none }
def WrapSaltsWrongFalsely : Prop := wrapSaltsRow.holds Tryd.pinned (OpenSpec.ofChange wrapSaltsWrong)

/-- 'tollgatelaw19.RadiusWrites': WHATEVER THE INPUT: true; the input reads as it did. -/
def radiusWritesSpec : ChangeSpec := { name := "radiusWrites", fn := fun _ => fun
  | [d1, d2] => { results := [.lit (.bool true)], args := [d1, d2] }
  | _ => none }
def radiusWritesRow : OpenClaim := { program := "ytocfhkmdkdjinaadoor", sum := "aa0b7d138bb741ac63f054f714eaddd4bc216d534d00d73277da36d60e57f62d", func := "tollgate/tollgatelaw19.RadiusWrites", spec := "radiusWrites", inPlace := ["internal/bytealg.MakeNoZero"], unfollowed := true, recurses := true, named := ["tollgate/old.sines", "tollgate/old.turns"], apart := false, laid := [("tollgate/old.sines", laid_tollgate_old_sines), ("tollgate/old.turns", laid_tollgate_old_turns)] }
def RadiusWritesSaid : Prop := radiusWritesRow.holds Tryd.pinned (OpenSpec.ofChange radiusWritesSpec)

/-- ITS FALSE NEIGHBOUR: 'it returns false'. Refute it at one input. -/
def radiusWritesWrong : ChangeSpec := { name := "radiusWrites", fn := fun _ => fun
  | [d1, d2] => { results := [.lit (.bool false)], args := [d1, d2] }
  | _ => none }
def RadiusWritesWrongFalsely : Prop := radiusWritesRow.holds Tryd.pinned (OpenSpec.ofChange radiusWritesWrong)

/-- 'tollgatelaw19.RadiusRooms': WHATEVER THE INPUT: true; the input reads as it did. -/
def radiusRoomsSpec : ChangeSpec := { name := "radiusRooms", fn := fun _ => fun
  | [d] => { results := [.lit (.bool true)], args := [d] }
  | _ => none }
def radiusRoomsRow : OpenClaim := { program := "ytocfhkmdkdjinaadoor", sum := "aa0b7d138bb741ac63f054f714eaddd4bc216d534d00d73277da36d60e57f62d", func := "tollgate/tollgatelaw19.RadiusRooms", spec := "radiusRooms", inPlace := ["internal/bytealg.MakeNoZero"], unfollowed := true, recurses := true, named := ["tollgate/old.sines", "tollgate/old.turns"], apart := false, laid := [("tollgate/old.sines", laid_tollgate_old_sines), ("tollgate/old.turns", laid_tollgate_old_turns)] }
def RadiusRoomsSaid : Prop := radiusRoomsRow.holds Tryd.pinned (OpenSpec.ofChange radiusRoomsSpec)

/-- ITS FALSE NEIGHBOUR: 'it returns false'. Refute it at one input. -/
def radiusRoomsWrong : ChangeSpec := { name := "radiusRooms", fn := fun _ => fun
  | [d] => { results := [.lit (.bool false)], args := [d] }
  | _ => none }
def RadiusRoomsWrongFalsely : Prop := radiusRoomsRow.holds Tryd.pinned (OpenSpec.ofChange radiusRoomsWrong)

/-- 'tollgatelaw19.RadiusOpens': WHATEVER THE INPUT: true; the input reads as it did. -/
def radiusOpensSpec : ChangeSpec := { name := "radiusOpens", fn := fun _ => fun
  | [d1, d2, d3] => { results := [.lit (.bool true)], args := [d1, d2, d3] }
  | _ => none }
def radiusOpensRow : OpenClaim := { program := "ytocfhkmdkdjinaadoor", sum := "aa0b7d138bb741ac63f054f714eaddd4bc216d534d00d73277da36d60e57f62d", func := "tollgate/tollgatelaw19.RadiusOpens", spec := "radiusOpens", inPlace := ["internal/bytealg.MakeNoZero"], unfollowed := true, recurses := true, named := ["tollgate/old.sines", "tollgate/old.turns"], apart := false, laid := [("tollgate/old.sines", laid_tollgate_old_sines), ("tollgate/old.turns", laid_tollgate_old_turns)] }
def RadiusOpensSaid : Prop := radiusOpensRow.holds Tryd.pinned (OpenSpec.ofChange radiusOpensSpec)

/-- ITS FALSE NEIGHBOUR: 'it returns false'. Refute it at one input. -/
def radiusOpensWrong : ChangeSpec := { name := "radiusOpens", fn := fun _ => fun
  | [d1, d2, d3] => { results := [.lit (.bool false)], args := [d1, d2, d3] }
  | _ => none }
def RadiusOpensWrongFalsely : Prop := radiusOpensRow.holds Tryd.pinned (OpenSpec.ofChange radiusOpensWrong)

/-- 'tollgatelaw19.RadiusSeals': WHATEVER THE INPUT: true; the input reads as it did. -/
def radiusSealsSpec : ChangeSpec := { name := "radiusSeals", fn := fun _ => fun
  | [d1, d2, d3] => { results := [.lit (.bool true)], args := [d1, d2, d3] }
  | _ => none }
def radiusSealsRow : OpenClaim := { program := "ytocfhkmdkdjinaadoor", sum := "aa0b7d138bb741ac63f054f714eaddd4bc216d534d00d73277da36d60e57f62d", func := "tollgate/tollgatelaw19.RadiusSeals", spec := "radiusSeals", inPlace := ["internal/bytealg.MakeNoZero"], unfollowed := true, recurses := true, named := ["tollgate/old.sines", "tollgate/old.turns"], apart := false, laid := [("tollgate/old.sines", laid_tollgate_old_sines), ("tollgate/old.turns", laid_tollgate_old_turns)] }
def RadiusSealsSaid : Prop := radiusSealsRow.holds Tryd.pinned (OpenSpec.ofChange radiusSealsSpec)

/-- ITS FALSE NEIGHBOUR: 'it returns false'. Refute it at one input. -/
def radiusSealsWrong : ChangeSpec := { name := "radiusSeals", fn := fun _ => fun
  | [d1, d2, d3] => { results := [.lit (.bool false)], args := [d1, d2, d3] }
  | _ => none }
def RadiusSealsWrongFalsely : Prop := radiusSealsRow.holds Tryd.pinned (OpenSpec.ofChange radiusSealsWrong)

/-- 'tollgatelaw19.RadiusSplits': WHATEVER THE INPUT: true; the input reads as it did. -/
def radiusSplitsSpec : ChangeSpec := { name := "radiusSplits", fn := fun _ => fun
  | [d1, d2, d3] => { results := [.lit (.bool true)], args := [d1, d2, d3] }
  | _ => none }
def radiusSplitsRow : OpenClaim := { program := "ytocfhkmdkdjinaadoor", sum := "aa0b7d138bb741ac63f054f714eaddd4bc216d534d00d73277da36d60e57f62d", func := "tollgate/tollgatelaw19.RadiusSplits", spec := "radiusSplits", inPlace := ["internal/bytealg.MakeNoZero"], unfollowed := true, recurses := true, named := ["tollgate/old.sines", "tollgate/old.turns"], apart := false, laid := [("tollgate/old.sines", laid_tollgate_old_sines), ("tollgate/old.turns", laid_tollgate_old_turns)] }
def RadiusSplitsSaid : Prop := radiusSplitsRow.holds Tryd.pinned (OpenSpec.ofChange radiusSplitsSpec)

/-- ITS FALSE NEIGHBOUR: 'it returns false'. Refute it at one input. -/
def radiusSplitsWrong : ChangeSpec := { name := "radiusSplits", fn := fun _ => fun
  | [d1, d2, d3] => { results := [.lit (.bool false)], args := [d1, d2, d3] }
  | _ => none }
def RadiusSplitsWrongFalsely : Prop := radiusSplitsRow.holds Tryd.pinned (OpenSpec.ofChange radiusSplitsWrong)

/-- 'tollgatelaw22.PortTries': WHATEVER THE INPUT: true; the input reads as it did. -/
def portTriesSpec : ChangeSpec := { name := "portTries", fn := fun _ => fun
  | [d1, d2, d3] => { results := [.lit (.bool true)], args := [d1, d2, d3] }
  | _ => none }
def portTriesRow : OpenClaim := { program := "ytocfhkmdkdjinaadoor", sum := "aa0b7d138bb741ac63f054f714eaddd4bc216d534d00d73277da36d60e57f62d", func := "tollgate/tollgatelaw22.PortTries", spec := "portTries", inPlace := ["internal/bytealg.MakeNoZero"], unfollowed := true, recurses := true, named := ["tollgate/hash.start", "tollgate/hash.rounds", "tollgate/old.sines", "tollgate/old.turns"], apart := false, laid := [("tollgate/hash.start", laid_tollgate_hash_start), ("tollgate/hash.rounds", laid_tollgate_hash_rounds), ("tollgate/old.sines", laid_tollgate_old_sines), ("tollgate/old.turns", laid_tollgate_old_turns)] }
def PortTriesSaid : Prop := portTriesRow.holds Tryd.pinned (OpenSpec.ofChange portTriesSpec)

/-- ITS FALSE NEIGHBOUR: 'it returns false'. Refute it at one input. -/
def portTriesWrong : ChangeSpec := { name := "portTries", fn := fun _ => fun
  | [d1, d2, d3] => { results := [.lit (.bool false)], args := [d1, d2, d3] }
  | _ => none }
def PortTriesWrongFalsely : Prop := portTriesRow.holds Tryd.pinned (OpenSpec.ofChange portTriesWrong)

/-- 'tollgatelaw22.PortNames': WHATEVER THE INPUT: true; the input reads as it did. -/
def portNamesSpec : ChangeSpec := { name := "portNames", fn := fun _ => fun
  | [d1, d2, d3] => { results := [.lit (.bool true)], args := [d1, d2, d3] }
  | _ => none }
def portNamesRow : OpenClaim := { program := "ytocfhkmdkdjinaadoor", sum := "aa0b7d138bb741ac63f054f714eaddd4bc216d534d00d73277da36d60e57f62d", func := "tollgate/tollgatelaw22.PortNames", spec := "portNames", inPlace := ["internal/bytealg.MakeNoZero"], unfollowed := true, recurses := true, named := ["tollgate/hash.start", "tollgate/hash.rounds", "tollgate/old.sines", "tollgate/old.turns"], apart := false, laid := [("tollgate/hash.start", laid_tollgate_hash_start), ("tollgate/hash.rounds", laid_tollgate_hash_rounds), ("tollgate/old.sines", laid_tollgate_old_sines), ("tollgate/old.turns", laid_tollgate_old_turns)] }
def PortNamesSaid : Prop := portNamesRow.holds Tryd.pinned (OpenSpec.ofChange portNamesSpec)

/-- ITS FALSE NEIGHBOUR: 'it returns false'. Refute it at one input. -/
def portNamesWrong : ChangeSpec := { name := "portNames", fn := fun _ => fun
  | [d1, d2, d3] => { results := [.lit (.bool false)], args := [d1, d2, d3] }
  | _ => none }
def PortNamesWrongFalsely : Prop := portNamesRow.holds Tryd.pinned (OpenSpec.ofChange portNamesWrong)

/-- 'tollgatelaw22.PortIds': WHATEVER THE INPUT: true; the input reads as it did. -/
def portIdsSpec : ChangeSpec := { name := "portIds", fn := fun _ => fun
  | [d1, d2] => { results := [.lit (.bool true)], args := [d1, d2] }
  | _ => none }
def portIdsRow : OpenClaim := { program := "ytocfhkmdkdjinaadoor", sum := "aa0b7d138bb741ac63f054f714eaddd4bc216d534d00d73277da36d60e57f62d", func := "tollgate/tollgatelaw22.PortIds", spec := "portIds", inPlace := ["internal/bytealg.MakeNoZero"], unfollowed := true, recurses := true, named := ["tollgate/hash.start", "tollgate/hash.rounds", "tollgate/old.sines", "tollgate/old.turns"], apart := false, laid := [("tollgate/hash.start", laid_tollgate_hash_start), ("tollgate/hash.rounds", laid_tollgate_hash_rounds), ("tollgate/old.sines", laid_tollgate_old_sines), ("tollgate/old.turns", laid_tollgate_old_turns)] }
def PortIdsSaid : Prop := portIdsRow.holds Tryd.pinned (OpenSpec.ofChange portIdsSpec)

/-- ITS FALSE NEIGHBOUR: 'it returns false'. Refute it at one input. -/
def portIdsWrong : ChangeSpec := { name := "portIds", fn := fun _ => fun
  | [d1, d2] => { results := [.lit (.bool false)], args := [d1, d2] }
  | _ => none }
def PortIdsWrongFalsely : Prop := portIdsRow.holds Tryd.pinned (OpenSpec.ofChange portIdsWrong)

/-- 'tollgatelaw22.PortShuts': WHATEVER THE INPUT: true; the input reads as it did. -/
def portShutsSpec : ChangeSpec := { name := "portShuts", fn := fun _ => fun
  | [d1, d2, d3] => { results := [.lit (.bool true)], args := [d1, d2, d3] }
  | _ => none }
def portShutsRow : OpenClaim := { program := "ytocfhkmdkdjinaadoor", sum := "aa0b7d138bb741ac63f054f714eaddd4bc216d534d00d73277da36d60e57f62d", func := "tollgate/tollgatelaw22.PortShuts", spec := "portShuts", inPlace := ["internal/bytealg.MakeNoZero"], unfollowed := true, recurses := true, named := ["tollgate/hash.start", "tollgate/hash.rounds", "tollgate/old.sines", "tollgate/old.turns"], apart := false, laid := [("tollgate/hash.start", laid_tollgate_hash_start), ("tollgate/hash.rounds", laid_tollgate_hash_rounds), ("tollgate/old.sines", laid_tollgate_old_sines), ("tollgate/old.turns", laid_tollgate_old_turns)] }
def PortShutsSaid : Prop := portShutsRow.holds Tryd.pinned (OpenSpec.ofChange portShutsSpec)

/-- ITS FALSE NEIGHBOUR: 'it returns false'. Refute it at one input. -/
def portShutsWrong : ChangeSpec := { name := "portShuts", fn := fun _ => fun
  | [d1, d2, d3] => { results := [.lit (.bool false)], args := [d1, d2, d3] }
  | _ => none }
def PortShutsWrongFalsely : Prop := portShutsRow.holds Tryd.pinned (OpenSpec.ofChange portShutsWrong)

/-- 'tollgatetop.TollgateCarries': WHATEVER THE INPUT: true; the input reads as it did. -/
def tollgateCarriesSpec : ChangeSpec := { name := "tollgateCarries", fn := fun _ => fun
  | [d1, d2, d3] => { results := [.lit (.bool true)], args := [d1, d2, d3] }
  | _ => none }
def tollgateCarriesRow : OpenClaim := { program := "ytocfhkmdkdjinaadoor", sum := "aa0b7d138bb741ac63f054f714eaddd4bc216d534d00d73277da36d60e57f62d", func := "tollgate/tollgatetop.TollgateCarries", spec := "tollgateCarries", inPlace := ["internal/bytealg.MakeNoZero"], unfollowed := true, recurses := true, named := ["tollgate/hash.start", "tollgate/hash.rounds", "tollgate/old.sines", "tollgate/old.turns"], apart := false, laid := [("tollgate/hash.start", laid_tollgate_hash_start), ("tollgate/hash.rounds", laid_tollgate_hash_rounds), ("tollgate/old.sines", laid_tollgate_old_sines), ("tollgate/old.turns", laid_tollgate_old_turns)] }
def TollgateCarriesSaid : Prop := tollgateCarriesRow.holds Tryd.pinned (OpenSpec.ofChange tollgateCarriesSpec)

/-- ITS FALSE NEIGHBOUR: 'it returns false'. Refute it at one input. -/
def tollgateCarriesWrong : ChangeSpec := { name := "tollgateCarries", fn := fun _ => fun
  | [d1, d2, d3] => { results := [.lit (.bool false)], args := [d1, d2, d3] }
  | _ => none }
def TollgateCarriesWrongFalsely : Prop := tollgateCarriesRow.holds Tryd.pinned (OpenSpec.ofChange tollgateCarriesWrong)

/- THE SECOND FORM. 'bulk': how many values and letters a reading holds, each counted each time it is reached (what is shared counts as often as it is met; a slice's spare places count too). A statement '..UptoSaid' is the law's where the arguments, and the package variables that the reading takes, are together of bulk at most 1048576: NARROWER than '..Said'. Prove '..Said' where nothing that the law and all that it calls make is longer than what came in: it says more and counts as full. Else prove '..UptoSaid'. A law counts once. -/
mutual
def uptoBulk {H : Type} : DataW H → Nat
  | .lit (.string bytes) => bytes.length + 1
  | .lit _ => 1
  | .nil => 1
  | .ptr d => uptoBulk d + 1
  | .slice elems spare => uptoBulkAll elems + uptoBulkAll spare + 1
  | .agg parts => uptoBulkAll parts + 1
  | .iface _ d => uptoBulk d + 1
  | .map entries => uptoBulkEntries entries + 1
  | .held _ => 1
def uptoBulkAll {H : Type} : List (DataW H) → Nat
  | [] => 0
  | d :: r => uptoBulk d + uptoBulkAll r
def uptoBulkEntries {H : Type} : List (Lit × DataW H) → Nat
  | [] => 0
  | x :: r => uptoBulkEntry x + uptoBulkEntries r
def uptoBulkEntry {H : Type} : Lit × DataW H → Nat
  | (.string bytes, d) => bytes.length + uptoBulk d + 1
  | (_, d) => uptoBulk d + 1
 end
def uptoSmall : (H : Type) → List (DataW H) → Bool := fun _ ds => decide (uptoBulkAll ds ≤ 1048576)
def OpenSpec.upto (s : _root_.Go.ChangeSpec) : _root_.Go.OpenSpec := { _root_.Go.OpenSpec.ofChange s with cond := some uptoSmall }

/-- 'tollgatetop.TollgateKeys', WHERE WHAT IT READS IS OF BULK AT MOST 1048576: true; the input reads as it did. -/
def tollgateKeysUptoRow : OpenClaim := { program := "ytocfhkmdkdjinaadoor", sum := "aa0b7d138bb741ac63f054f714eaddd4bc216d534d00d73277da36d60e57f62d", func := "tollgate/tollgatetop.TollgateKeys", spec := "tollgateKeys", inPlace := ["internal/bytealg.MakeNoZero"], unfollowed := true, recurses := true, named := ["tollgate/old.sines", "tollgate/old.turns", "tollgate/hash.start", "tollgate/hash.rounds"], apart := false, laid := [("tollgate/hash.start", laid_tollgate_hash_start), ("tollgate/hash.rounds", laid_tollgate_hash_rounds), ("tollgate/old.sines", laid_tollgate_old_sines), ("tollgate/old.turns", laid_tollgate_old_turns)], narrowed := true }
def TollgateKeysUptoSaid : Prop := tollgateKeysUptoRow.holds Tryd.pinned (OpenSpec.upto tollgateKeysSpec)

/-- 'tollgatelaw20.WrapWraps', WHERE WHAT IT READS IS OF BULK AT MOST 1048576: true; the input reads as it did. -/
def wrapWrapsUptoRow : OpenClaim := { program := "ytocfhkmdkdjinaadoor", sum := "aa0b7d138bb741ac63f054f714eaddd4bc216d534d00d73277da36d60e57f62d", func := "tollgate/tollgatelaw20.WrapWraps", spec := "wrapWraps", unfollowed := true, recurses := true, named := ["tollgate/old.sines", "tollgate/old.turns"], apart := false, laid := [("tollgate/old.sines", laid_tollgate_old_sines), ("tollgate/old.turns", laid_tollgate_old_turns)], narrowed := true }
def WrapWrapsUptoSaid : Prop := wrapWrapsUptoRow.holds Tryd.pinned (OpenSpec.upto wrapWrapsSpec)

/-- 'tollgatelaw20.WrapUnwraps', WHERE WHAT IT READS IS OF BULK AT MOST 1048576: true; the input reads as it did. -/
def wrapUnwrapsUptoRow : OpenClaim := { program := "ytocfhkmdkdjinaadoor", sum := "aa0b7d138bb741ac63f054f714eaddd4bc216d534d00d73277da36d60e57f62d", func := "tollgate/tollgatelaw20.WrapUnwraps", spec := "wrapUnwraps", unfollowed := true, recurses := true, named := ["tollgate/old.sines", "tollgate/old.turns"], apart := false, laid := [("tollgate/old.sines", laid_tollgate_old_sines), ("tollgate/old.turns", laid_tollgate_old_turns)], narrowed := true }
def WrapUnwrapsUptoSaid : Prop := wrapUnwrapsUptoRow.holds Tryd.pinned (OpenSpec.upto wrapUnwrapsSpec)

/-- 'tollgatelaw20.WrapBent', WHERE WHAT IT READS IS OF BULK AT MOST 1048576: true; the input reads as it did. -/
def wrapBentUptoRow : OpenClaim := { program := "ytocfhkmdkdjinaadoor", sum := "aa0b7d138bb741ac63f054f714eaddd4bc216d534d00d73277da36d60e57f62d", func := "tollgate/tollgatelaw20.WrapBent", spec := "wrapBent", unfollowed := true, recurses := true, named := ["tollgate/old.sines", "tollgate/old.turns"], apart := false, laid := [("tollgate/old.sines", laid_tollgate_old_sines), ("tollgate/old.turns", laid_tollgate_old_turns)], narrowed := true }
def WrapBentUptoSaid : Prop := wrapBentUptoRow.holds Tryd.pinned (OpenSpec.upto wrapBentSpec)

/-- 'tollgatelaw20.WrapSizes', WHERE WHAT IT READS IS OF BULK AT MOST 1048576: true; the input reads as it did. -/
def wrapSizesUptoRow : OpenClaim := { program := "ytocfhkmdkdjinaadoor", sum := "aa0b7d138bb741ac63f054f714eaddd4bc216d534d00d73277da36d60e57f62d", func := "tollgate/tollgatelaw20.WrapSizes", spec := "wrapSizes", unfollowed := true, recurses := true, named := ["tollgate/old.sines", "tollgate/old.turns"], apart := false, laid := [("tollgate/old.sines", laid_tollgate_old_sines), ("tollgate/old.turns", laid_tollgate_old_turns)], narrowed := true }
def WrapSizesUptoSaid : Prop := wrapSizesUptoRow.holds Tryd.pinned (OpenSpec.upto wrapSizesSpec)

/-- 'tollgatelaw20.WrapSalts', WHERE WHAT IT READS IS OF BULK AT MOST 1048576: true; the input reads as it did. -/
def wrapSaltsUptoRow : OpenClaim := { program := "ytocfhkmdkdjinaadoor", sum := "aa0b7d138bb741ac63f054f714eaddd4bc216d534d00d73277da36d60e57f62d", func := "tollgate/tollgatelaw20.WrapSalts", spec := "wrapSalts", unfollowed := true, recurses := true, named := ["tollgate/old.sines", "tollgate/old.turns"], apart := false, laid := [("tollgate/old.sines", laid_tollgate_old_sines), ("tollgate/old.turns", laid_tollgate_old_turns)], narrowed := true }
def WrapSaltsUptoSaid : Prop := wrapSaltsUptoRow.holds Tryd.pinned (OpenSpec.upto wrapSaltsSpec)

/-- 'tollgatelaw19.RadiusWrites', WHERE WHAT IT READS IS OF BULK AT MOST 1048576: true; the input reads as it did. -/
def radiusWritesUptoRow : OpenClaim := { program := "ytocfhkmdkdjinaadoor", sum := "aa0b7d138bb741ac63f054f714eaddd4bc216d534d00d73277da36d60e57f62d", func := "tollgate/tollgatelaw19.RadiusWrites", spec := "radiusWrites", inPlace := ["internal/bytealg.MakeNoZero"], unfollowed := true, recurses := true, named := ["tollgate/old.sines", "tollgate/old.turns"], apart := false, laid := [("tollgate/old.sines", laid_tollgate_old_sines), ("tollgate/old.turns", laid_tollgate_old_turns)], narrowed := true }
def RadiusWritesUptoSaid : Prop := radiusWritesUptoRow.holds Tryd.pinned (OpenSpec.upto radiusWritesSpec)

/-- 'tollgatelaw19.RadiusRooms', WHERE WHAT IT READS IS OF BULK AT MOST 1048576: true; the input reads as it did. -/
def radiusRoomsUptoRow : OpenClaim := { program := "ytocfhkmdkdjinaadoor", sum := "aa0b7d138bb741ac63f054f714eaddd4bc216d534d00d73277da36d60e57f62d", func := "tollgate/tollgatelaw19.RadiusRooms", spec := "radiusRooms", inPlace := ["internal/bytealg.MakeNoZero"], unfollowed := true, recurses := true, named := ["tollgate/old.sines", "tollgate/old.turns"], apart := false, laid := [("tollgate/old.sines", laid_tollgate_old_sines), ("tollgate/old.turns", laid_tollgate_old_turns)], narrowed := true }
def RadiusRoomsUptoSaid : Prop := radiusRoomsUptoRow.holds Tryd.pinned (OpenSpec.upto radiusRoomsSpec)

/-- 'tollgatelaw19.RadiusOpens', WHERE WHAT IT READS IS OF BULK AT MOST 1048576: true; the input reads as it did. -/
def radiusOpensUptoRow : OpenClaim := { program := "ytocfhkmdkdjinaadoor", sum := "aa0b7d138bb741ac63f054f714eaddd4bc216d534d00d73277da36d60e57f62d", func := "tollgate/tollgatelaw19.RadiusOpens", spec := "radiusOpens", inPlace := ["internal/bytealg.MakeNoZero"], unfollowed := true, recurses := true, named := ["tollgate/old.sines", "tollgate/old.turns"], apart := false, laid := [("tollgate/old.sines", laid_tollgate_old_sines), ("tollgate/old.turns", laid_tollgate_old_turns)], narrowed := true }
def RadiusOpensUptoSaid : Prop := radiusOpensUptoRow.holds Tryd.pinned (OpenSpec.upto radiusOpensSpec)

/-- 'tollgatelaw19.RadiusSeals', WHERE WHAT IT READS IS OF BULK AT MOST 1048576: true; the input reads as it did. -/
def radiusSealsUptoRow : OpenClaim := { program := "ytocfhkmdkdjinaadoor", sum := "aa0b7d138bb741ac63f054f714eaddd4bc216d534d00d73277da36d60e57f62d", func := "tollgate/tollgatelaw19.RadiusSeals", spec := "radiusSeals", inPlace := ["internal/bytealg.MakeNoZero"], unfollowed := true, recurses := true, named := ["tollgate/old.sines", "tollgate/old.turns"], apart := false, laid := [("tollgate/old.sines", laid_tollgate_old_sines), ("tollgate/old.turns", laid_tollgate_old_turns)], narrowed := true }
def RadiusSealsUptoSaid : Prop := radiusSealsUptoRow.holds Tryd.pinned (OpenSpec.upto radiusSealsSpec)

/-- 'tollgatelaw19.RadiusSplits', WHERE WHAT IT READS IS OF BULK AT MOST 1048576: true; the input reads as it did. -/
def radiusSplitsUptoRow : OpenClaim := { program := "ytocfhkmdkdjinaadoor", sum := "aa0b7d138bb741ac63f054f714eaddd4bc216d534d00d73277da36d60e57f62d", func := "tollgate/tollgatelaw19.RadiusSplits", spec := "radiusSplits", inPlace := ["internal/bytealg.MakeNoZero"], unfollowed := true, recurses := true, named := ["tollgate/old.sines", "tollgate/old.turns"], apart := false, laid := [("tollgate/old.sines", laid_tollgate_old_sines), ("tollgate/old.turns", laid_tollgate_old_turns)], narrowed := true }
def RadiusSplitsUptoSaid : Prop := radiusSplitsUptoRow.holds Tryd.pinned (OpenSpec.upto radiusSplitsSpec)

/-- 'tollgatelaw22.PortTries', WHERE WHAT IT READS IS OF BULK AT MOST 1048576: true; the input reads as it did. -/
def portTriesUptoRow : OpenClaim := { program := "ytocfhkmdkdjinaadoor", sum := "aa0b7d138bb741ac63f054f714eaddd4bc216d534d00d73277da36d60e57f62d", func := "tollgate/tollgatelaw22.PortTries", spec := "portTries", inPlace := ["internal/bytealg.MakeNoZero"], unfollowed := true, recurses := true, named := ["tollgate/hash.start", "tollgate/hash.rounds", "tollgate/old.sines", "tollgate/old.turns"], apart := false, laid := [("tollgate/hash.start", laid_tollgate_hash_start), ("tollgate/hash.rounds", laid_tollgate_hash_rounds), ("tollgate/old.sines", laid_tollgate_old_sines), ("tollgate/old.turns", laid_tollgate_old_turns)], narrowed := true }
def PortTriesUptoSaid : Prop := portTriesUptoRow.holds Tryd.pinned (OpenSpec.upto portTriesSpec)

/-- 'tollgatelaw22.PortNames', WHERE WHAT IT READS IS OF BULK AT MOST 1048576: true; the input reads as it did. -/
def portNamesUptoRow : OpenClaim := { program := "ytocfhkmdkdjinaadoor", sum := "aa0b7d138bb741ac63f054f714eaddd4bc216d534d00d73277da36d60e57f62d", func := "tollgate/tollgatelaw22.PortNames", spec := "portNames", inPlace := ["internal/bytealg.MakeNoZero"], unfollowed := true, recurses := true, named := ["tollgate/hash.start", "tollgate/hash.rounds", "tollgate/old.sines", "tollgate/old.turns"], apart := false, laid := [("tollgate/hash.start", laid_tollgate_hash_start), ("tollgate/hash.rounds", laid_tollgate_hash_rounds), ("tollgate/old.sines", laid_tollgate_old_sines), ("tollgate/old.turns", laid_tollgate_old_turns)], narrowed := true }
def PortNamesUptoSaid : Prop := portNamesUptoRow.holds Tryd.pinned (OpenSpec.upto portNamesSpec)

/-- 'tollgatelaw22.PortIds', WHERE WHAT IT READS IS OF BULK AT MOST 1048576: true; the input reads as it did. -/
def portIdsUptoRow : OpenClaim := { program := "ytocfhkmdkdjinaadoor", sum := "aa0b7d138bb741ac63f054f714eaddd4bc216d534d00d73277da36d60e57f62d", func := "tollgate/tollgatelaw22.PortIds", spec := "portIds", inPlace := ["internal/bytealg.MakeNoZero"], unfollowed := true, recurses := true, named := ["tollgate/hash.start", "tollgate/hash.rounds", "tollgate/old.sines", "tollgate/old.turns"], apart := false, laid := [("tollgate/hash.start", laid_tollgate_hash_start), ("tollgate/hash.rounds", laid_tollgate_hash_rounds), ("tollgate/old.sines", laid_tollgate_old_sines), ("tollgate/old.turns", laid_tollgate_old_turns)], narrowed := true }
def PortIdsUptoSaid : Prop := portIdsUptoRow.holds Tryd.pinned (OpenSpec.upto portIdsSpec)

/-- 'tollgatelaw22.PortShuts', WHERE WHAT IT READS IS OF BULK AT MOST 1048576: true; the input reads as it did. -/
def portShutsUptoRow : OpenClaim := { program := "ytocfhkmdkdjinaadoor", sum := "aa0b7d138bb741ac63f054f714eaddd4bc216d534d00d73277da36d60e57f62d", func := "tollgate/tollgatelaw22.PortShuts", spec := "portShuts", inPlace := ["internal/bytealg.MakeNoZero"], unfollowed := true, recurses := true, named := ["tollgate/hash.start", "tollgate/hash.rounds", "tollgate/old.sines", "tollgate/old.turns"], apart := false, laid := [("tollgate/hash.start", laid_tollgate_hash_start), ("tollgate/hash.rounds", laid_tollgate_hash_rounds), ("tollgate/old.sines", laid_tollgate_old_sines), ("tollgate/old.turns", laid_tollgate_old_turns)], narrowed := true }
def PortShutsUptoSaid : Prop := portShutsUptoRow.holds Tryd.pinned (OpenSpec.upto portShutsSpec)

/-- 'tollgatetop.TollgateCarries', WHERE WHAT IT READS IS OF BULK AT MOST 1048576: true; the input reads as it did. -/
def tollgateCarriesUptoRow : OpenClaim := { program := "ytocfhkmdkdjinaadoor", sum := "aa0b7d138bb741ac63f054f714eaddd4bc216d534d00d73277da36d60e57f62d", func := "tollgate/tollgatetop.TollgateCarries", spec := "tollgateCarries", inPlace := ["internal/bytealg.MakeNoZero"], unfollowed := true, recurses := true, named := ["tollgate/hash.start", "tollgate/hash.rounds", "tollgate/old.sines", "tollgate/old.turns"], apart := false, laid := [("tollgate/hash.start", laid_tollgate_hash_start), ("tollgate/hash.rounds", laid_tollgate_hash_rounds), ("tollgate/old.sines", laid_tollgate_old_sines), ("tollgate/old.turns", laid_tollgate_old_turns)], narrowed := true }
def TollgateCarriesUptoSaid : Prop := tollgateCarriesUptoRow.holds Tryd.pinned (OpenSpec.upto tollgateCarriesSpec)

end Rows
end Go.Proofs.YtocfhkmdkdjinaaDoor
