/- What the claim leans on, text Zpe: Po5. No condition beyond what each lemma states. -/
import Derived.Test.YtocfhkmdkdjinaaDoorZd
import Derived.Test.YtocfhkmdkdjinaaDoorZt
import Derived.Test.YtocfhkmdkdjinaaDoorZpd
import Derived.Test.YtocfhkmdkdjinaaDoorZf
import Derived.Test.YtocfhkmdkdjinaaDoorZg

/- port: FromPeer. Printed by wp.py. -/
namespace Go.Proofs.YtocfhkmdkdjinaaDoor
open Go Go.RowKit
set_option linter.unusedVariables false
set_option linter.unusedSimpArgs false
set_option maxRecDepth 100000
set_option maxHeartbeats 8000000
attribute [local irreducible] inR VC RG VCn sq inS lq nq jq Wk
attribute [local simp] portC_len hm_length
/-- What the n-th ask's authenticator is made of. -/
def n4P (n : Int) : List UInt8 := [b8 (n / 16777216), b8 (n / 65536), b8 (n / 256), b8 n]
def auP (n : Int) : List UInt8 := hm (List.replicate 32 0) (n4P n)
theorem auP_fc (n : Int) : FC Tryd.prog GS 60 [.rob (List.replicate 32 0), .rof 1 [n4P n].length (fun i _ => .rob ([n4P n].getD i []))] (.aggb (auP n)) none := mOf1_fc (List.replicate 32 0) (n4P n) (by simp) (by simp [n4P])
theorem auP_len (n : Int) : (auP n).length = 32 := hm_length _ _
theorem tk16 (m : List UInt8) (h : m.length = 32) : List.take 16 m = q16 m := by
  refine gb_ext (by rw [List.length_take, q16_len]; omega) fun i hi => ?_
  rw [List.length_take] at hi
  rw [q16_gb _ i (by omega)]
  unfold gb
  rw [List.getD_eq_getElem?_getD, List.getElem?_take_of_lt (by omega), ← List.getD_eq_getElem?_getD]
/-- What a peer calls itself from now on. -/
def nmP (nm : List UInt8) (t : Int) (d : List UInt8) : List UInt8 := if t = 1 ∧ nm.length = 0 ∧ d.length ≤ 253 then d else nm
theorem atsL_len (nm mk : List UInt8) (mh : Bool) (b : List UInt8) (hb : b.length ≤ 100000) : (atsL nm mk mh b).length ≤ 1000 := by
  unfold atsL nmA mkA
  simp only [List.length_append, spL_len, List.length_range]
  have h1 : pcN b.length 253 ≤ 400 := by unfold pcN; omega
  split <;> split <;> simp <;> omega
attribute [local irreducible] bodyA wrS wrO idxF idxM seV slV rpV rdO rdS prs rdP prC seL cutI opA ofP opnP opdP opdS md hm auP atsL sha

namespace Upfrom_fc
theorem U : type_of% (@drop_rep UInt8) ∧ type_of% (@drop_rep D) ∧ type_of% (@List.take_zero UInt8) ∧ type_of% (@List.take_zero D) ∧ type_of% @q16_take ∧ type_of% @q16_len ∧ type_of% @q16_fold ∧ type_of% @q16_map ∧ type_of% @decL ∧ type_of% @decI ∧ type_of% @atR_len ∧ type_of% @atO_len ∧ type_of% @atR_sc ∧ type_of% @atR_tk ∧ type_of% @hm_length := ⟨(@drop_rep UInt8), (@drop_rep D), (@List.take_zero UInt8), (@List.take_zero D), @q16_take, @q16_len, @q16_fold, @q16_map, @decL, @decI, @atR_len, @atO_len, @atR_sc, @atR_tk, @hm_length⟩
end Upfrom_fc
open Upfrom_fc
theorem pfrom_fc (S : List UInt8) (T W id n : Int) (au nm mk : List UInt8) (mh : Bool) (sd : List UInt8) (tr il : Int) (b : List UInt8) (t : Int) (d out : List UInt8) (hb : b.length ≤ 100000) (hS : S.length ≤ 100000) (hn : 0 ≤ n ∧ n ≤ 1000000) (hr : reP b = (2, id, t, d, 0)) (hs : slV 1 (n % 256) (q16 (auP n)) (atsL (nmP nm t d) mk mh b) S = (out, 0)) (ho : out.length ≤ 100000) : FC Tryd.prog GA 57 [.ownp (portC S T W 1 id n au nm mk mh sd tr il), .rob b] (.tup [.ownb out, .int .i64 0]) (some (portC S T W 2 id (n + 1) (auP n) (nmP nm t d) mk mh out 1 0)) := by
  unfold portC
  refine fo_ 128 [4, 5] ti_eq gpA Tryd.func57 (fun C hE hm hP hr9 hrn => ?_)
  have hal := auP_len n
  have mf := (auP_fc n).more GS_A
  have ef := (eread_fc b 2 id t d 0 (by omega) hr).any (G := GA)
  have sf := (seal_fc 1 (n % 256) (auP n) (atsL (nmP nm t d) mk mh b) S (by have := atsL_len (nmP nm t d) mk mh b hb; omega) hS).more GO_A
  rw [hs] at sf
  have e1 : auP n ++ List.drop (auP n).length (List.replicate 32 0) = auP n := by rw [hal]; simp
  have e2 : List.take 16 (auP n) ++ List.drop (min 16 ((auP n).length + (32 - (auP n).length))) (List.replicate 16 (0 : UInt8)) = q16 (auP n) := by rw [hal, tk16 _ hal]; simp
  refine A_ ?_
  first | refine O_ ?_ | refine OD_ hm ?_
  refine G_ 1 hE ?_
  refine rc_ hE hP (ef) Tryd.func65 ?_ (hm := by exact ma2_) (hnr := by exact nrt2_) (had := by exact adt2_)
  refine G_ 200 hE ?_
  first | refine rz ?_ | refine ZD_ ?_
  refine sq_n ?_
  refine VC.weak ?_ (kclose 6 3 3517 (by exact rfl) (by exact rfl) (by exact rfl) (by exact rfl) (by exact rfl) (by exact rfl) (by exact rfl))
  refine VC.weak ?_ (kfreeze 6 (cs' := [.int .i64 2, .int .i64 id, .int .i64 t, .rob d]) (by exact rfl) (by exact rfl) (by simp [frz]))
  refine A_ ?_
  by_cases hq : t = 1 ∧ nm.length = 0 ∧ d.length ≤ 253
  · have hnn : nmP nm t d = d := if_pos hq
    rw [hnn] at sf ⊢
    refine C_ hE (fun hcc => ?_) (fun hcc => ?_) <;> (try (exfalso; omega))
    refine A_ ?_
    first | refine O_ ?_ | refine OD_ hm ?_
    refine G_ 18 hE ?_
    refine rc_ hE hP (mf) Tryd.func60 ?_ (hm := by apply mcf rfl; exact mat_rbc rfl rfl rfl rfl rfl; exact ma_)
    refine G_ 200 hE ?_
    first | refine rz ?_ | refine ZD_ ?_
    refine A_ ?_
    rw [e1, e2]
    have af := (pattrs_fc S T W 1 id n au nm mk mh sd tr il (nmP nm t d) b hb).any (G := GA)
    rw [hnn] at af
    unfold portC at af
    first | refine O_ ?_ | refine OD_ hm ?_
    refine G_ 6 hE ?_
    refine rcs_ hE hP af Tryd.func94 ?_ (x := 900)
    refine G_ 6 hE ?_
    refine rco_ hE hP (sf) Tryd.func38 ?_
    refine G_ 200 hE ?_
    first | refine rz ?_ | refine ZD_ ?_
    refine A_ ?_
    refine wv_ (sgb_ 12 104) ?_
    first | refine O_ ?_ | refine OD_ hm ?_
    refine G_ 2 hE ?_
    refine rc_ hE hP ((psay_fc S T W 1 id (n + 1) (auP n) d mk mh sd tr il out 2 (by omega)).any) Tryd.func93 ?_
    refine G_ 200 hE ?_
    first | refine rz ?_ | refine ZD_ ?_
    refine A_ ?_
    exact retr_
  · have hnn : nmP nm t d = nm := if_neg hq
    rw [hnn] at sf ⊢
    refine C_ hE (fun hcc => ?_) (fun hcc => ?_) <;> (try (exfalso; omega))
    refine A_ ?_
    first | refine O_ ?_ | refine OD_ hm ?_
    refine G_ 18 hE ?_
    refine rc_ hE hP (mf) Tryd.func60 ?_ (hm := by apply mcf rfl; exact mat_rbc rfl rfl rfl rfl rfl; exact ma_)
    refine G_ 200 hE ?_
    first | refine rz ?_ | refine ZD_ ?_
    refine A_ ?_
    rw [e1, e2]
    have af := (pattrs_fc S T W 1 id n au nm mk mh sd tr il (nmP nm t d) b hb).any (G := GA)
    rw [hnn] at af
    unfold portC at af
    first | refine O_ ?_ | refine OD_ hm ?_
    refine G_ 6 hE ?_
    refine rcs_ hE hP af Tryd.func94 ?_ (x := 900)
    refine G_ 6 hE ?_
    refine rco_ hE hP (sf) Tryd.func38 ?_
    refine G_ 200 hE ?_
    first | refine rz ?_ | refine ZD_ ?_
    refine A_ ?_
    refine wv_ (sgb_ 12 104) ?_
    first | refine O_ ?_ | refine OD_ hm ?_
    refine G_ 2 hE ?_
    refine rc_ hE hP ((psay_fc S T W 1 id (n + 1) (auP n) nm mk mh sd tr il out 2 (by omega)).any) Tryd.func93 ?_
    refine G_ 200 hE ?_
    first | refine rz ?_ | refine ZD_ ?_
    refine A_ ?_
    exact retr_
end Go.Proofs.YtocfhkmdkdjinaaDoor
