/- What the claim leans on, text Zph: Po8. No condition beyond what each lemma states. -/
import Derived.Test.YtocfhkmdkdjinaaDoorZd
import Derived.Test.YtocfhkmdkdjinaaDoorZt
import Derived.Test.YtocfhkmdkdjinaaDoorZpd
import Derived.Test.YtocfhkmdkdjinaaDoorZre

/- port: FromServer. Printed by wp.py. -/
namespace Go.Proofs.YtocfhkmdkdjinaaDoor
open Go Go.RowKit
set_option linter.unusedVariables false
set_option linter.unusedSimpArgs false
set_option maxRecDepth 100000
set_option maxHeartbeats 8000000
attribute [local irreducible] inR VC RG VCn sq inS lq nq jq Wk
attribute [local simp] portC_len
attribute [local irreducible] bodyA wrS wrO idxF idxM seV slV rpV rdO rdS prs rdP prC seL cutI opA ofP opnP opdP opdS md fnd joA

namespace Upserver_id
theorem U : type_of% (@drop_rep UInt8) ∧ type_of% (@drop_rep D) ∧ type_of% (@List.take_zero UInt8) ∧ type_of% (@List.take_zero D) ∧ type_of% @q16_take ∧ type_of% @q16_len ∧ type_of% @q16_fold ∧ type_of% @q16_map ∧ type_of% @decL ∧ type_of% @decI ∧ type_of% @atR_len ∧ type_of% @atO_len ∧ type_of% @atR_sc ∧ type_of% @atR_tk := ⟨(@drop_rep UInt8), (@drop_rep D), (@List.take_zero UInt8), (@List.take_zero D), @q16_take, @q16_len, @q16_fold, @q16_map, @decL, @decI, @atR_len, @atO_len, @atR_sc, @atR_tk⟩
end Upserver_id
open Upserver_id
theorem pserver_id (S : List UInt8) (T W id n : Int) (au nm mk : List UInt8) (mh : Bool) (sd : List UInt8) (tr il : Int) (b : List UInt8) (A2 : List UInt8) (L : List (Int × List UInt8)) (c i : Int) (hb : b.length ≤ 100000) (hS : S.length ≤ 100000) (hn : 1 ≤ n ∧ n ≤ 1000000) (ho : opdP b (q16 au) S = (c, i, q16 A2, L, 0)) (hi : ¬ i = (n - 1) % 256) : FC Tryd.prog GO 59 [.ownp (portC S T W 2 id n au nm mk mh sd tr il), .rob b] (.tup [.ownb [], .int .i64 10]) (some (portC S T W 2 id n au nm mk mh sd tr il)) := by
  unfold portC
  refine fo_ 115 [4, 5] ti_eq gpO Tryd.func59 (fun C hE hm hP hr9 hrn => ?_)
  have of := opened_fc b au S c i A2 L 0 (by omega) hS ho
  refine A_ ?_
  first | refine O_ ?_ | refine OD_ hm ?_
  refine G_ 10 hE ?_
  refine rc_ hE hP (of) Tryd.func21 ?_ (hm := by exact ma2_) (hnr := by exact nrt2_) (had := by exact adt2_)
  refine G_ 200 hE ?_
  first | refine rz ?_ | refine ZD_ ?_
  refine A_ ?_
  refine C_ hE (fun hcc => ?_) (fun hcc => ?_) <;> (try (exfalso; omega))
  refine A_ ?_
  exact retr_

theorem pserver_ask (S : List UInt8) (T W id n : Int) (au nm mk : List UInt8) (mh : Bool) (sd : List UInt8) (tr il : Int) (b : List UInt8) (A2 : List UInt8) (L : List (Int × List UInt8)) (id2 t : Int) (d : List UInt8) (hb : b.length ≤ 100000) (hS : S.length ≤ 100000) (hn : 1 ≤ n ∧ n ≤ 1000000) (hL : L.length ≤ 1000000) (hLv : ∀ a ∈ L, a.2.length ≤ 100000) (hj : (joA L).length ≤ 100000) (ho : opdP b (q16 au) S = (11, (n - 1) % 256, q16 A2, L, 0)) (hr : reP (joA L) = (1, id2, t, d, 0)) : FC Tryd.prog GO 59 [.ownp (portC S T W 2 id n au nm mk mh sd tr il), .rob b] (.tup [.ownb (joA L), .int .i64 0]) (some (portC S T W 1 id2 n au nm (fnd 24 L).1 (fnd 24 L).2 (joA L) 1 0)) := by
  unfold portC
  refine fo_ 115 [4, 5] ti_eq gpO Tryd.func59 (fun C hE hm hP hr9 hrn => ?_)
  have of := opened_fc b au S 11 ((n - 1) % 256) A2 L 0 (by omega) hS ho
  have jf := (join_fc L hL (by omega)).any (G := GO)
  have ef := (eread_fc (joA L) 1 id2 t d 0 (by omega) hr).any (G := GO)
  refine A_ ?_
  first | refine O_ ?_ | refine OD_ hm ?_
  refine G_ 10 hE ?_
  refine rc_ hE hP (of) Tryd.func21 ?_ (hm := by exact ma2_) (hnr := by exact nrt2_) (had := by exact adt2_)
  refine G_ 200 hE ?_
  first | refine rz ?_ | refine ZD_ ?_
  refine A_ ?_
  first | refine O_ ?_ | refine OD_ hm ?_
  refine G_ 2 hE ?_
  refine rc_ hE hP (jf) Tryd.func50 ?_ (hm := by exact ma2_) (hnr := by exact nrt2_) (had := by exact adt2_)
  refine G_ 200 hE ?_
  first | refine rz ?_ | refine ZD_ ?_
  refine A_ ?_
  first | refine O_ ?_ | refine OD_ hm ?_
  refine G_ 1 hE ?_
  refine rc_ hE hP (ef) Tryd.func65 ?_ (hm := by exact ma2_) (hnr := by exact nrt2_) (had := by exact adt2_)
  refine G_ 200 hE ?_
  first | refine rz ?_ | refine ZD_ ?_
  refine A_ ?_
  have ff := (find_fc L 24 hL hLv).any (G := GO)
  first | refine O_ ?_ | refine OD_ hm ?_
  refine G_ 4 hE ?_
  refine rc_ hE hP (ff) Tryd.func47 ?_ (hm := by exact ma2_) (hnr := by exact nrt2_) (had := by exact adt2_)
  refine G_ 200 hE ?_
  first | refine rz ?_ | refine ZD_ ?_
  refine sq_n ?_
  refine VC.weak ?_ (kclose 900 55 72 (by exact rfl) (by exact rfl) (by exact rfl) (by exact rfl) (by exact rfl) (by exact rfl) (by exact rfl))
  rw [List.drop_zero, List.take_length]
  refine VC.weak ?_ (kfreeze 900 (cs' := portC S T W 2 id n au nm (fnd 24 L).1 (fnd 24 L).2 sd tr il) (by exact rfl) (by exact rfl) (by exact rfl))
  unfold portC
  refine A_ ?_
  refine wv_ (sgb_ 8 49) ?_
  first | refine O_ ?_ | refine OD_ hm ?_
  refine G_ 2 hE ?_
  refine rc_ hE hP ((psay_fc S T W 2 id2 n au nm (fnd 24 L).1 (fnd 24 L).2 sd tr il (joA L) 1 (by omega)).any) Tryd.func93 ?_
  refine G_ 200 hE ?_
  first | refine rz ?_ | refine ZD_ ?_
  refine A_ ?_
  exact retr_

theorem pserver_shut (S : List UInt8) (T W id n : Int) (au nm mk : List UInt8) (mh : Bool) (sd : List UInt8) (tr il : Int) (b : List UInt8) (A2 : List UInt8) (L : List (Int × List UInt8)) (i2 : Int) (hb : b.length ≤ 100000) (hS : S.length ≤ 100000) (hn : 1 ≤ n ∧ n ≤ 1000000) (hL : L.length ≤ 1000000) (hj : (joA L).length ≤ 100000) (ho : opdP b (q16 au) S = (3, (n - 1) % 256, q16 A2, L, 0)) (hr : reP (joA L) = (4, i2, 0, [], 0)) : FC Tryd.prog GO 59 [.ownp (portC S T W 2 id n au nm mk mh sd tr il), .rob b] (.tup [.ownb (joA L), .int .i64 0]) (some (portC S T W 4 id n au nm mk mh (joA L) 1 0)) := by
  unfold portC
  refine fo_ 115 [4, 5] ti_eq gpO Tryd.func59 (fun C hE hm hP hr9 hrn => ?_)
  have of := opened_fc b au S 3 ((n - 1) % 256) A2 L 0 (by omega) hS ho
  have jf := (join_fc L hL (by omega)).any (G := GO)
  have ef := (eread_fc (joA L) 4 i2 0 [] 0 (by omega) hr).any (G := GO)
  refine A_ ?_
  first | refine O_ ?_ | refine OD_ hm ?_
  refine G_ 10 hE ?_
  refine rc_ hE hP (of) Tryd.func21 ?_ (hm := by exact ma2_) (hnr := by exact nrt2_) (had := by exact adt2_)
  refine G_ 200 hE ?_
  first | refine rz ?_ | refine ZD_ ?_
  refine A_ ?_
  first | refine O_ ?_ | refine OD_ hm ?_
  refine G_ 2 hE ?_
  refine rc_ hE hP (jf) Tryd.func50 ?_ (hm := by exact ma2_) (hnr := by exact nrt2_) (had := by exact adt2_)
  refine G_ 200 hE ?_
  first | refine rz ?_ | refine ZD_ ?_
  refine A_ ?_
  first | refine O_ ?_ | refine OD_ hm ?_
  refine G_ 1 hE ?_
  refine rc_ hE hP (ef) Tryd.func65 ?_ (hm := by exact ma2_) (hnr := by exact nrt2_) (had := by exact adt2_)
  refine G_ 200 hE ?_
  first | refine rz ?_ | refine ZD_ ?_
  refine A_ ?_
  refine wv_ (sgb_ 8 49) ?_
  first | refine O_ ?_ | refine OD_ hm ?_
  refine G_ 2 hE ?_
  refine rc_ hE hP ((psay_fc S T W 2 id n au nm mk mh sd tr il (joA L) 4 (by omega)).any) Tryd.func93 ?_
  refine G_ 200 hE ?_
  first | refine rz ?_ | refine ZD_ ?_
  refine A_ ?_
  exact retr_

end Go.Proofs.YtocfhkmdkdjinaaDoor
