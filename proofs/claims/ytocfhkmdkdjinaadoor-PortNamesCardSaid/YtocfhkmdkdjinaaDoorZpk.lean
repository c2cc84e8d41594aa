/- What the claim leans on, text Zpk: Po10. No condition beyond what each lemma states. -/
import Derived.Test.YtocfhkmdkdjinaaDoorZd
import Derived.Test.YtocfhkmdkdjinaaDoorZt
import Derived.Test.YtocfhkmdkdjinaaDoorZpi
import Derived.Test.YtocfhkmdkdjinaaDoorZpj

/- PortNames returns true. Printed by wp.py. -/
namespace Go.Proofs.YtocfhkmdkdjinaaDoor
open Go Go.RowKit
set_option linter.unusedVariables false
set_option linter.unusedSimpArgs false
set_option maxRecDepth 100000
set_option maxHeartbeats 16000000
attribute [local irreducible] inR VC RG VCn sq inS lq nq jq Wk
attribute [local simp] portC_len nmL_portI auP_len
theorem nmL_atRn (L : List (Int × List UInt8)) : nmL (atR L) = [] := by
  unfold atR
  induction L with
  | nil => rfl
  | cons a L ih => rw [List.flatMap_cons, nmL_append, ih]; rfl
attribute [local simp] nmL_atRn
def helP : List UInt8 := [1, 9, 0, 10, 13, 104, 101, 108, 108, 111]
theorem hel_w : weV 1 9 13 [104, 101, 108, 108, 111] = (helP, 0) := by decide
theorem hel_r : reP helP = (1, 9, 13, [104, 101, 108, 108, 111], 0) := by decide
theorem joA_1 {nm mk : List UInt8} {mh : Bool} {b : List UInt8} : joA (atsL nm mk mh b) = b := by
  unfold atsL
  rw [joA_app, joA_app, joI_split]
  have e1 : joA (nmA nm) = [] := by
    unfold nmA
    split
    · unfold joA; rw [if_neg (by simp)]; rfl
    · rfl
  have e2 : joA (mkA mk mh) = [] := by
    unfold mkA
    split
    · unfold joA; rw [if_neg (by simp)]; rfl
    · rfl
  rw [e1, e2]
  rfl
theorem fnd_no1 {nm mk : List UInt8} {mh : Bool} {b : List UInt8} (h : ¬ 0 < nm.length) : fnd 1 (atsL nm mk mh b) = ([], false) := by
  refine fndI_no _ fun a ha => ?_
  unfold atsL at ha
  rw [nmA_n h] at ha
  rcases List.mem_append.1 ha with ha | ha
  · simp at ha
  · rcases List.mem_append.1 ha with ha | ha
    · unfold mkA at ha
      split at ha
      · rw [List.mem_singleton.1 ha]; simp
      · simp at ha
    · rw [spL_79 _ _ a ha]; decide
theorem fnd_24 {nm mk b : List UInt8} : fnd 24 (atsL nm mk true b) = (mk, true) := by
  unfold atsL nmA mkA
  split
  · show fnd 24 ((1, nm) :: (24, mk) :: _) = _
    unfold fnd
    rw [if_neg (by simp)]
    unfold fnd
    rw [if_pos rfl]
  · show fnd 24 ((24, mk) :: _) = _
    unfold fnd
    rw [if_pos rfl]
/-- What a peer's name comes to. -/
theorem name_two (x : List UInt8) (hx : x.length ≤ 300) : ∃ m ok, nmP [] 1 x = m ∧ m.length ≤ 253 ∧ ok = (decide ((x.length : Int) ≥ 1) && decide ((x.length : Int) ≤ 253)) ∧ (∀ mk b, fnd 1 (atsL m mk true b) = (if ok then x else [], ok)) := by
  by_cases h : 1 ≤ x.length ∧ x.length ≤ 253
  · refine ⟨x, true, if_pos ⟨rfl, rfl, h.2⟩, h.2, ?_, fun mk b => fnd_1 (by omega)⟩
    rw [decide_eq_true (by omega), decide_eq_true (by omega)]
    rfl
  · by_cases h0 : x.length = 0
    · have : x = [] := List.eq_nil_of_length_eq_zero h0
      subst this
      exact ⟨[], false, rfl, by simp, rfl, fun mk b => fnd_no1 (by simp)⟩
    · refine ⟨[], false, if_neg (by simp; omega), by simp, ?_, fun mk b => fnd_no1 (by simp)⟩
      rw [decide_eq_false (show ¬ (x.length : Int) ≤ 253 by omega), Bool.and_false]
theorem name_ask (m x B : List UInt8) (hm : m.length ≤ 253) (hB : B.length ≤ 310) : ∃ out, slV 1 0 (q16 (auP 0)) (atsL m [] false B) [115] = (out, 0) ∧ out.length ≤ 4096 ∧ opnP out [115] = (1, 0, q16 (auP 0), atsL m [] false B, 0) := by
  refine ask_seal 0 (auP 0) [115] (by omega) (ats_ok hm (by decide)) ?_ (ats_no _ _ _ _)
  have := ats_body m [] false B
  have h2 : pcN B.length 253 ≤ 2 := by unfold pcN; omega
  simp only [List.length_nil] at this
  omega
theorem name_ask2 (m st B : List UInt8) (hm : m.length ≤ 253) (hs : st.length ≤ 253) (hB : B.length ≤ 3010) : ∃ out, slV 1 1 (q16 (auP 1)) (atsL m st true B) [115] = (out, 0) ∧ out.length ≤ 4096 ∧ opnP out [115] = (1, 1, q16 (auP 1), atsL m st true B, 0) := by
  refine ask_seal 1 (auP 1) [115] (by omega) (ats_ok hm hs) ?_ (ats_no _ _ _ _)
  have := ats_body m st true B
  have h2 : pcN B.length 253 ≤ 12 := by unfold pcN; omega
  omega
theorem name_ans (st : List UInt8) (hs : st.length ≤ 253) : ∃ out A2, rpV 11 0 (q16 (auP 0)) ((24, st) :: spL helP (List.range (pcN helP.length 253))) [115] = (out, 0) ∧ out.length ≤ 4096 ∧ opdP out (q16 (auP 0)) [115] = (11, 0, q16 A2, (24, st) :: spL helP (List.range (pcN helP.length 253)), 0) := by
  have e : (24, st) :: spL helP (List.range (pcN helP.length 253)) = atsL [] st true helP := rfl
  rw [e]
  refine answer_seal 11 0 (auP 0) [115] (by omega) (by omega) (ats_ok (by decide) hs) ?_ (ats_no _ _ _ _)
  have := ats_body [] st true helP
  have h2 : pcN helP.length 253 = 1 := by decide
  have h3 : helP.length = 10 := rfl
  rw [h2, h3] at this
  simp only [List.length_nil] at this
  omega
theorem ats_hel (st : List UInt8) : (24, st) :: spL helP (List.range (pcN helP.length 253)) = atsL [] st true helP := rfl
attribute [local irreducible] bodyA wrS wrO idxF idxM seV slV rpV rdO rdS prs rdP prC seL cutI opA ofP opnP opdP opdS md hm auP atsL sha fnd joA spL weV

namespace UportNames_fc
theorem U : type_of% (@drop_rep UInt8) ∧ type_of% (@drop_rep D) ∧ type_of% (@List.take_zero UInt8) ∧ type_of% (@List.take_zero D) ∧ type_of% @q16_take ∧ type_of% @q16_len ∧ type_of% @q16_fold ∧ type_of% @q16_map ∧ type_of% @decL ∧ type_of% @decI ∧ type_of% @atR_len ∧ type_of% @atO_len ∧ type_of% @atR_sc ∧ type_of% @atR_tk := ⟨(@drop_rep UInt8), (@drop_rep D), (@List.take_zero UInt8), (@List.take_zero D), @q16_take, @q16_len, @q16_fold, @q16_map, @decL, @decI, @atR_len, @atO_len, @atR_sc, @atR_tk⟩
end UportNames_fc
open UportNames_fc
theorem portNames_fc (ln lt ld : List UInt8) : FC Tryd.prog GA 15 [.rob ln, .rob lt, .rob ld] (.bool true) none := by
  refine fi_ 205 [6] ti_eq gpA Tryd.func15 (fun C hE hm hP hrc hrn => ?_)
  have t1 : List.take (min (ln.length : Int) 300).toNat ln = ln.take 300 := tkI_min ln 300
  have t2 : List.take (min (lt.length : Int) 253).toNat lt = lt.take 253 := tkI_min lt 253
  have t3 : List.take (min (ld.length : Int) 3000).toNat ld = ld.take 3000 := tkI_min ld 3000
  have n1 : (ln.take 300).length ≤ 300 := by rw [List.length_take]; omega
  have n2 : (lt.take 253).length ≤ 253 := by rw [List.length_take]; omega
  have n3 : (ld.take 3000).length ≤ 3000 := by rw [List.length_take]; omega
  generalize ln.take 300 = x at *
  generalize lt.take 253 = st at *
  generalize ld.take 3000 = y at *
  obtain ⟨m, ok, hm1, hml, hok, hfn⟩ := name_two x n1
  have z1 : szE 2 0 1 x.length = 5 + x.length := szE_two (.inr rfl) (by omega) (by omega) (by omega)
  have z3 : szE 2 9 13 y.length = 5 + y.length := szE_two (.inr rfl) (by omega) (by omega) (by omega)
  obtain ⟨B1, b1w, b1r, b1l⟩ := wr_ok (d := x) (by rw [z1]; omega)
  obtain ⟨B3, b3w, b3r, b3l⟩ := wr_ok (d := y) (by rw [z3]; omega)
  rw [z1] at b1l
  rw [z3] at b3l
  obtain ⟨o1, s1, l1, p1⟩ := name_ask m x B1 hml (by omega)
  obtain ⟨o3, s3, l3, p3⟩ := name_ask2 m st B3 hml n2 (by omega)
  obtain ⟨o2, A2, s2, l2, p2⟩ := name_ans st n2
  have nf := (pnew_fc [115] 2 2 (by decide) (by decide) (by decide)).any (G := GA)
  have sf := (pstart_fc [115] 2 2 0 0 0 z16 [] [] false [] 0 0 (by decide)).any (G := GA)
  have k1 := (packet_fc 2 0 1 x (by omega)).any (G := GA)
  have k2 := (packet_fc 1 9 13 [104, 101, 108, 108, 111] (by decide)).any (G := GA)
  have k3 := (packet_fc 2 9 13 y (by omega)).any (G := GA)
  rw [b1w] at k1
  rw [hel_w] at k2
  rw [b3w] at k3
  have ff1 := pfrom_fc [115] 2 2 0 0 z16 [] [] false whoP 1 0 B1 1 x o1 (by omega) (by decide) (by decide) b1r (by rw [hm1]; exact s1) (by omega)
  rw [hm1] at ff1
  have of1 := (open2_fc o1 [115] 1 0 (auP 0) (atsL m [] false B1) 0 (by omega) (by decide) p1).more GO_A
  have spf := (split_fc helP (by decide)).any (G := GA)
  have hPl : (spL helP (List.range (pcN helP.length 253))).length ≤ 10 := by rw [spL_len, List.length_range]; decide
  have hPv := spL_v helP (List.range (pcN helP.length 253))
  have hj2 : joA ((24, st) :: spL helP (List.range (pcN helP.length 253))) = helP := by rw [ats_hel]; exact joA_1
  have hf2 : fnd 24 ((24, st) :: spL helP (List.range (pcN helP.length 253))) = (st, true) := by rw [ats_hel]; exact fnd_24
  generalize spL helP (List.range (pcN helP.length 253)) = P at *
  have rf := (reply_fc 11 0 z16 (auP 0) ((24, st) :: P) [115] (by simp; omega) (by decide)).more GO_A
  rw [s2] at rf
  simp only [z16_gb] at rf
  have hQl : 1 + P.length = ((24, st) :: P : List (Int × List UInt8)).length := by simp; omega
  have sv := (pserver_ask [115] 2 2 0 1 (auP 0) m [] false o1 1 0 o2 A2 ((24, st) :: P) 9 13 [104, 101, 108, 108, 111] (by omega) (by decide) (by decide) (by simp; omega) (fun a ha => by
    rcases List.mem_cons.1 ha with rfl | ha
    · simp only; omega
    · have := hPv a ha; omega) (by rw [hj2]; decide) p2 (by rw [hj2]; exact hel_r)).more GO_A
  rw [hj2, hf2] at sv
  have hm3 : nmP m 13 y = m := if_neg (by simp)
  have ff3 := pfrom_fc [115] 2 2 9 1 (auP 0) m st true helP 1 0 B3 13 y o3 (by omega) (by decide) (by decide) b3r (by rw [hm3]; exact s3) (by omega)
  rw [hm3] at ff3
  have of3 := (open2_fc o3 [115] 1 1 (auP 1) (atsL m st true B3) 0 (by omega) (by decide) p3).more GO_A
  have hL3 := atsL_len m st true B3 (by omega)
  have hv3 := ats_v m st true B3 (by omega) (by omega)
  have hj3 := joA_1 (nm := m) (mk := st) (mh := true) (b := B3)
  have hn3 := hfn st B3
  have ht3 := fnd_24 (nm := m) (mk := st) (b := B3)
  generalize atsL m st true B3 = L3 at *
  have fd1 := (find_fc L3 1 (by omega) hv3).any (G := GA)
  have fd2 := (find_fc L3 24 (by omega) hv3).any (G := GA)
  rw [hn3] at fd1
  rw [ht3] at fd2
  have jf := (join_fc L3 (by omega) (by rw [hj3]; omega)).any (G := GA)
  rw [hj3] at jf
  have a0 := (auP_fc 0).more GS_A
  have a1 := (auP_fc 1).more GS_A
  rw [show n4P 0 = [0, 0, 0, 0] from by decide] at a0
  rw [show n4P 1 = [0, 0, 0, 1] from by decide] at a1
  have x0 : (auP 0).length = 32 := auP_len 0
  have x1 : (auP 1).length = 32 := auP_len 1
  have hne := au_ne
  have hne16 := au_ne16
  clear s1 s2 s3 p1 p2 p3
  generalize auP 0 = A0 at *
  generalize auP 1 = A1 at *
  refine vs ?_
  refine R_ hE ?_
  refine sq_n ?_
  refine vs ?_
  refine A_ ?_
  rw [t1, t2, t3]
  first | refine O_ ?_ | refine OD_ hm ?_
  refine G_ 2 hE ?_
  refine rg_w (sgb_ 39 38) ?_
  refine G_ 1 hE ?_
  refine rc_ hE hP (nf) Tryd.func52 ?_
  refine G_ 200 hE ?_
  first | refine rz ?_ | refine ZD_ ?_
  refine A_ ?_
  first | refine O_ ?_ | refine OD_ hm ?_
  refine rc_ hE hP (ports_fc) Tryd.func53 ?_
  refine G_ 2 hE ?_
  refine GT_ hE (rfl) ?_
  refine GT_ hE (rfl) ?_
  refine G_ 200 hE ?_
  first | refine rz ?_ | refine ZD_ ?_
  refine A_ ?_
  first | refine O_ ?_ | refine OD_ hm ?_
  refine G_ 1 hE ?_
  refine rc_ hE hP (sf) Tryd.func54 ?_
  refine G_ 200 hE ?_
  first | refine rz ?_ | refine ZD_ ?_
  refine A_ ?_
  first | refine O_ ?_ | refine OD_ hm ?_
  refine G_ 3 hE ?_
  refine rc_ hE hP (k1) Tryd.func58 ?_
  refine rg_w (sgb_ 56 56) ?_
  refine rc_ hE hP (ff1) Tryd.func57 ?_
  refine G_ 200 hE ?_
  first | refine rz ?_ | refine ZD_ ?_
  refine A_ ?_
  refine wv_ (sgb_ 9 57) ?_
  first | refine O_ ?_ | refine OD_ hm ?_
  refine G_ 3 hE ?_
  refine rg_w (sgb_ 63 62) ?_
  refine rc_ hE hP (of1) Tryd.func39 ?_ (hm := by exact ma2_) (hnr := by exact nrt2_) (had := by exact adt2_)
  refine G_ 200 hE ?_
  first | refine rz ?_ | refine ZD_ ?_
  refine A_ ?_
  first | refine O_ ?_ | refine OD_ hm ?_
  refine G_ 5 hE ?_
  refine rc_ hE hP (k2) Tryd.func58 ?_
  refine rc_ hE hP (spf) Tryd.func46 ?_ (hm := by exact ma2_) (hnr := by exact nrt2_) (had := by exact adt2_)
  refine APF_ 80 hE (atO_fr P) (atO_frz P) ?_
  rw [atR_1, hQl]
  refine G_ 5 hE ?_
  refine rco_ hE hP (rf) Tryd.func20 ?_
  refine G_ 200 hE ?_
  first | refine rz ?_ | refine ZD_ ?_
  refine A_ ?_
  refine wv_ (sgb_ 12 87) ?_
  first | refine O_ ?_ | refine OD_ hm ?_
  refine G_ 2 hE ?_
  refine rc_ hE hP (sv) Tryd.func59 ?_
  refine G_ 200 hE ?_
  first | refine rz ?_ | refine ZD_ ?_
  refine A_ ?_
  first | refine O_ ?_ | refine OD_ hm ?_
  refine G_ 3 hE ?_
  refine rc_ hE hP (k3) Tryd.func58 ?_
  refine rg_w (sgb_ 100 100) ?_
  refine rc_ hE hP (ff3) Tryd.func57 ?_
  refine G_ 200 hE ?_
  first | refine rz ?_ | refine ZD_ ?_
  refine A_ ?_
  refine wv_ (sgb_ 14 101) ?_
  first | refine O_ ?_ | refine OD_ hm ?_
  refine G_ 3 hE ?_
  refine rg_w (sgb_ 107 106) ?_
  refine rc_ hE hP (of3) Tryd.func39 ?_ (hm := by exact ma2_) (hnr := by exact nrt2_) (had := by exact adt2_)
  refine G_ 200 hE ?_
  first | refine rz ?_ | refine ZD_ ?_
  refine A_ ?_
  first | refine O_ ?_ | refine OD_ hm ?_
  refine G_ 2 hE ?_
  refine rc_ hE hP (fd1) Tryd.func47 ?_ (hm := by exact ma2_) (hnr := by exact nrt2_) (had := by exact adt2_)
  refine G_ 200 hE ?_
  first | refine rz ?_ | refine ZD_ ?_
  refine A_ ?_
  first | refine O_ ?_ | refine OD_ hm ?_
  refine G_ 2 hE ?_
  refine rc_ hE hP (fd2) Tryd.func47 ?_ (hm := by exact ma2_) (hnr := by exact nrt2_) (had := by exact adt2_)
  refine G_ 200 hE ?_
  first | refine rz ?_ | refine ZD_ ?_
  refine A_ ?_
  refine wv_ (wc_ [0, 1, 2, 8, 11, 15, 17, 10, 16, 13, 18, 19, 20, 21] [10, 16, 18608, 18564, 93, 114, 120] hrc) ?_
  by_cases h1 : 1 ≤ x.length
  · by_cases h2 : x.length ≤ 253
    · obtain rfl : ok = true := by rw [hok, decide_eq_true (by omega), decide_eq_true (by omega)]; rfl
      rw [if_pos rfl]
      first | refine O_ ?_ | refine OD_ hm ?_
      refine G_ 3 hE ?_
      refine GT_ hE (rfl) ?_
      refine GT_ hE (rfl) ?_
      refine G_ 2 hE ?_
      refine GT_ hE (rfl) ?_
      refine GT_ hE (rfl) ?_
      refine G_ 2 hE ?_
      refine GT_ hE (rfl) ?_
      refine GT_ hE (rfl) ?_
      refine G_ 2 hE ?_
      refine GT_ hE (rfl) ?_
      refine GT_ hE (rfl) ?_
      refine rct_ hE hP (k2) Tryd.func58 (rfl) ?_
      refine GT_ hE (rfl) ?_
      refine GT_ hE (rfl) ?_
      refine G_ 2 hE ?_
      refine GT_ hE (rfl) ?_
      refine GT_ hE (rfl) ?_
      refine GT_ hE (rfl) ?_
      refine GT_ hE (rfl) ?_
      rw [decide_eq_true (show (1 : Int) ≤ (x.length : Int) by omega)]
      refine GT_ hE (rfl) ?_
      refine GT_ hE (rfl) ?_
      refine GT_ hE (rfl) ?_
      refine GT_ hE (rfl) ?_
      rw [decide_eq_true (show (x.length : Int) ≤ 253 by omega)]
      refine GT_ hE (rfl) ?_
      refine GT_ hE (rfl) ?_
      refine G_ 2 hE ?_
      refine GT_ hE (rfl) ?_
      refine GT_ hE (rfl) ?_
      refine GT_ hE (rfl) ?_
      refine GT_ hE (rfl) ?_
      refine GT_ hE (rfl) ?_
      refine GT_ hE (rfl) ?_
      refine GT_ hE (rfl) ?_
      refine GT_ hE (rfl) ?_
      refine GT_ hE (rfl) ?_
      refine G_ 2 hE ?_
      refine GT_ hE (rfl) ?_
      refine G_ 2 hE ?_
      refine GT_ hE (rfl) ?_
      refine GT_ hE (rfl) ?_
      refine GT_ hE (rfl) ?_
      refine GT_ hE (rfl) ?_
      refine GT_ hE (rfl) ?_
      refine G_ 2 hE ?_
      refine GT_ hE (rfl) ?_
      refine GT_ hE (rfl) ?_
      refine rct_ hE hP (jf) Tryd.func50 (rfl) ?_ (hm := by exact ma2_) (hnr := by exact nrt2_) (had := by exact adt2_)
      refine GT_ hE (rfl) ?_
      refine GT_ hE (rfl) ?_
      refine GT_ hE (rfl) ?_
      refine rct_ hE hP (k3) Tryd.func58 (rfl) ?_
      refine GT_ hE (rfl) ?_
      refine GT_ hE (rfl) ?_
      refine G_ 2 hE ?_
      refine GT_ hE (rfl) ?_
      refine GT_ hE (rfl) ?_
      refine GT_ hE (rfl) ?_
      refine GT_ hE (rfl) ?_
      refine GT_ hE (rfl) ?_
      rw [decide_eq_false hne16, Bool.not_false]
      refine GT_ hE (rfl) ?_
      refine GT_ hE (rfl) ?_
      refine GT_ hE (rfl) ?_
      refine rct_ hE hP (a0) Tryd.func60 (rfl) ?_
      refine GT_ hE (rfl) ?_
      refine GT_ hE (rfl) ?_
      refine GT_ hE (rfl) ?_
      refine rct_ hE hP (a1) Tryd.func60 (rfl) ?_
      refine GT_ hE (rfl) ?_
      rw [decide_eq_false hne, Bool.not_false]
      refine GT_ hE (rfl) ?_
      refine G_ 200 hE ?_
      first | refine rz ?_ | refine ZD_ ?_
      refine A_ ?_
      exact ret_
    · obtain rfl : ok = false := by rw [hok, decide_eq_false (show ¬ (x.length : Int) ≤ 253 by omega), Bool.and_false]
      rw [if_neg (by decide)]
      first | refine O_ ?_ | refine OD_ hm ?_
      refine G_ 3 hE ?_
      refine GT_ hE (rfl) ?_
      refine GT_ hE (rfl) ?_
      refine G_ 2 hE ?_
      refine GT_ hE (rfl) ?_
      refine GT_ hE (rfl) ?_
      refine G_ 2 hE ?_
      refine GT_ hE (rfl) ?_
      refine GT_ hE (rfl) ?_
      refine G_ 2 hE ?_
      refine GT_ hE (rfl) ?_
      refine GT_ hE (rfl) ?_
      refine rct_ hE hP (k2) Tryd.func58 (rfl) ?_
      refine GT_ hE (rfl) ?_
      refine GT_ hE (rfl) ?_
      refine G_ 2 hE ?_
      refine GT_ hE (rfl) ?_
      refine GT_ hE (rfl) ?_
      refine GT_ hE (rfl) ?_
      refine GT_ hE (rfl) ?_
      rw [decide_eq_true (show (1 : Int) ≤ (x.length : Int) by omega)]
      refine GT_ hE (rfl) ?_
      refine GT_ hE (rfl) ?_
      refine GT_ hE (rfl) ?_
      refine GT_ hE (rfl) ?_
      rw [decide_eq_false (show ¬ (x.length : Int) ≤ 253 by omega)]
      refine GT_ hE (rfl) ?_
      refine GT_ hE (rfl) ?_
      refine G_ 2 hE ?_
      refine GT_ hE (rfl) ?_
      refine GT_ hE (rfl) ?_
      refine GT_ hE (rfl) ?_
      refine GF_ hE (rfl) ?_
      refine GF_ hE (rfl) ?_
      refine GF_ hE (rfl) ?_
      refine GF_ hE (rfl) ?_
      refine GI_ (.bool true) hE (rfl) ?_
      refine GT_ hE (rfl) ?_
      refine G_ 2 hE ?_
      refine GT_ hE (rfl) ?_
      refine G_ 2 hE ?_
      refine GT_ hE (rfl) ?_
      refine GT_ hE (rfl) ?_
      refine GT_ hE (rfl) ?_
      refine GT_ hE (rfl) ?_
      refine GT_ hE (rfl) ?_
      refine G_ 2 hE ?_
      refine GT_ hE (rfl) ?_
      refine GT_ hE (rfl) ?_
      refine rct_ hE hP (jf) Tryd.func50 (rfl) ?_ (hm := by exact ma2_) (hnr := by exact nrt2_) (had := by exact adt2_)
      refine GT_ hE (rfl) ?_
      refine GT_ hE (rfl) ?_
      refine GT_ hE (rfl) ?_
      refine rct_ hE hP (k3) Tryd.func58 (rfl) ?_
      refine GT_ hE (rfl) ?_
      refine GT_ hE (rfl) ?_
      refine G_ 2 hE ?_
      refine GT_ hE (rfl) ?_
      refine GT_ hE (rfl) ?_
      refine GT_ hE (rfl) ?_
      refine GT_ hE (rfl) ?_
      refine GT_ hE (rfl) ?_
      rw [decide_eq_false hne16, Bool.not_false]
      refine GT_ hE (rfl) ?_
      refine GT_ hE (rfl) ?_
      refine GT_ hE (rfl) ?_
      refine rct_ hE hP (a0) Tryd.func60 (rfl) ?_
      refine GT_ hE (rfl) ?_
      refine GT_ hE (rfl) ?_
      refine GT_ hE (rfl) ?_
      refine rct_ hE hP (a1) Tryd.func60 (rfl) ?_
      refine GT_ hE (rfl) ?_
      rw [decide_eq_false hne, Bool.not_false]
      refine GT_ hE (rfl) ?_
      refine G_ 200 hE ?_
      first | refine rz ?_ | refine ZD_ ?_
      refine A_ ?_
      exact ret_
  · obtain rfl : ok = false := by rw [hok, decide_eq_false (show ¬ (x.length : Int) ≥ 1 by omega), Bool.false_and]
    rw [if_neg (by decide)]
    first | refine O_ ?_ | refine OD_ hm ?_
    refine G_ 3 hE ?_
    refine GT_ hE (rfl) ?_
    refine GT_ hE (rfl) ?_
    refine G_ 2 hE ?_
    refine GT_ hE (rfl) ?_
    refine GT_ hE (rfl) ?_
    refine G_ 2 hE ?_
    refine GT_ hE (rfl) ?_
    refine GT_ hE (rfl) ?_
    refine G_ 2 hE ?_
    refine GT_ hE (rfl) ?_
    refine GT_ hE (rfl) ?_
    refine rct_ hE hP (k2) Tryd.func58 (rfl) ?_
    refine GT_ hE (rfl) ?_
    refine GT_ hE (rfl) ?_
    refine G_ 2 hE ?_
    refine GT_ hE (rfl) ?_
    refine GT_ hE (rfl) ?_
    refine GT_ hE (rfl) ?_
    refine GT_ hE (rfl) ?_
    rw [decide_eq_false (show ¬ (1 : Int) ≤ (x.length : Int) by omega)]
    refine GT_ hE (rfl) ?_
    refine GF_ hE (rfl) ?_
    refine GF_ hE (rfl) ?_
    refine GI_ (.bool true) hE (rfl) ?_
    refine GT_ hE (rfl) ?_
    refine GT_ hE (rfl) ?_
    refine G_ 2 hE ?_
    refine GT_ hE (rfl) ?_
    refine GT_ hE (rfl) ?_
    refine GT_ hE (rfl) ?_
    refine GF_ hE (rfl) ?_
    refine GF_ hE (rfl) ?_
    refine GF_ hE (rfl) ?_
    refine GF_ hE (rfl) ?_
    refine GI_ (.bool true) hE (rfl) ?_
    refine GT_ hE (rfl) ?_
    refine G_ 2 hE ?_
    refine GT_ hE (rfl) ?_
    refine G_ 2 hE ?_
    refine GT_ hE (rfl) ?_
    refine GT_ hE (rfl) ?_
    refine GT_ hE (rfl) ?_
    refine GT_ hE (rfl) ?_
    refine GT_ hE (rfl) ?_
    refine G_ 2 hE ?_
    refine GT_ hE (rfl) ?_
    refine GT_ hE (rfl) ?_
    refine rct_ hE hP (jf) Tryd.func50 (rfl) ?_ (hm := by exact ma2_) (hnr := by exact nrt2_) (had := by exact adt2_)
    refine GT_ hE (rfl) ?_
    refine GT_ hE (rfl) ?_
    refine GT_ hE (rfl) ?_
    refine rct_ hE hP (k3) Tryd.func58 (rfl) ?_
    refine GT_ hE (rfl) ?_
    refine GT_ hE (rfl) ?_
    refine G_ 2 hE ?_
    refine GT_ hE (rfl) ?_
    refine GT_ hE (rfl) ?_
    refine GT_ hE (rfl) ?_
    refine GT_ hE (rfl) ?_
    refine GT_ hE (rfl) ?_
    rw [decide_eq_false hne16, Bool.not_false]
    refine GT_ hE (rfl) ?_
    refine GT_ hE (rfl) ?_
    refine GT_ hE (rfl) ?_
    refine rct_ hE hP (a0) Tryd.func60 (rfl) ?_
    refine GT_ hE (rfl) ?_
    refine GT_ hE (rfl) ?_
    refine GT_ hE (rfl) ?_
    refine rct_ hE hP (a1) Tryd.func60 (rfl) ?_
    refine GT_ hE (rfl) ?_
    rw [decide_eq_false hne, Bool.not_false]
    refine GT_ hE (rfl) ?_
    refine G_ 200 hE ?_
    first | refine rz ?_ | refine ZD_ ?_
    refine A_ ?_
    exact ret_
end Go.Proofs.YtocfhkmdkdjinaaDoor
