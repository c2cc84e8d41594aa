/- What the claim leans on, text Zpf: Pop, Po6. No condition beyond what each lemma states. -/
import Derived.Test.YtocfhkmdkdjinaaDoorZpd
import Derived.Test.YtocfhkmdkdjinaaDoorZsa
import Derived.Test.YtocfhkmdkdjinaaDoorZd
import Derived.Test.YtocfhkmdkdjinaaDoorZt
import Derived.Test.YtocfhkmdkdjinaaDoorZpe
import Derived.Test.YtocfhkmdkdjinaaDoorZre

/- What a port asks its server, in plain Lean: it is sealed, and opened again. -/
namespace Go.Proofs.YtocfhkmdkdjinaaDoor
open Go Go.RowKit
set_option linter.unusedVariables false
set_option linter.unusedSimpArgs false
theorem idxF_no : ∀ (L : List (Int × List UInt8)) (k : Nat), (∀ a ∈ L, a.1 ≠ 80) → idxF L k = -1
  | [], k, _ => rfl
  | a :: L, k, h => by
    unfold idxF
    rw [if_neg (h a List.mem_cons_self)]
    exact idxF_no L (k + 1) (fun b hb => h b (List.mem_cons_of_mem _ hb))
theorem idxM_no {L : List (Int × List UInt8)} (h : ∀ a ∈ L, a.1 ≠ 80) : ¬ 0 ≤ idxM L := by
  unfold idxM
  rw [idxF_no L 0 h]
  omega
theorem bodyA_sp (l : List UInt8) : ∀ n, (bodyA (spL l (List.range n))).length = (l.take (n * 253)).length + 2 * n
  | 0 => by rw [Nat.zero_mul, List.take_zero]; rfl
  | n + 1 => by
    rw [List.range_succ, spL_s, bodyA_app, bodyA_one, List.length_append, bodyA_sp l n, enA_len]
    have e : (pc l 253 n).length = min 253 (l.length - n * 253) := by unfold pc; rw [List.length_take, List.length_drop]
    simp only [e, List.length_take]
    omega
theorem bodyA_split (l : List UInt8) : (bodyA (spL l (List.range (pcN l.length 253)))).length = l.length + 2 * pcN l.length 253 := by
  rw [bodyA_sp, List.take_of_length_le]
  unfold pcN
  omega
theorem ats_ok {nm mk : List UInt8} {mh : Bool} {b : List UInt8} (h1 : nm.length ≤ 253) (h2 : mk.length ≤ 253) : (atsL nm mk mh b).all okA = true := by
  unfold atsL
  rw [List.all_append, List.all_append]
  have e1 : (nmA nm).all okA = true := by
    unfold nmA
    split
    · simp only [List.all_cons, List.all_nil, Bool.and_true]
      exact (okA_iff _).2 ⟨by simp, by simp, h1⟩
    · rfl
  have e2 : (mkA mk mh).all okA = true := by
    unfold mkA
    split
    · simp only [List.all_cons, List.all_nil, Bool.and_true]
      exact (okA_iff _).2 ⟨by simp, by simp, h2⟩
    · rfl
  have e3 : (spL b (List.range (pcN b.length 253))).all okA = true := by
    refine List.all_eq_true.2 fun a ha => ?_
    unfold spL at ha
    obtain ⟨k, -, rfl⟩ := List.mem_map.1 ha
    refine (okA_iff _).2 ⟨by simp, by simp, ?_⟩
    show (pc b 253 k).length ≤ 253
    unfold pc
    rw [List.length_take]
    omega
  rw [e1, e2, e3]
  rfl
theorem ats_body (nm mk : List UInt8) (mh : Bool) (b : List UInt8) : (bodyA (atsL nm mk mh b)).length ≤ (nm.length + 2) + ((mk.length + 2) + (b.length + 2 * pcN b.length 253)) := by
  unfold atsL
  rw [bodyA_app, bodyA_app, List.length_append, List.length_append, bodyA_split]
  have e1 : (bodyA (nmA nm)).length ≤ nm.length + 2 := by
    unfold nmA
    split
    · rw [bodyA_one, enA_len]; exact Nat.le_refl _
    · simp [bodyA_nil]
  have e2 : (bodyA (mkA mk mh)).length ≤ mk.length + 2 := by
    unfold mkA
    split
    · rw [bodyA_one, enA_len]; exact Nat.le_refl _
    · simp [bodyA_nil]
  omega
theorem ats_no (nm mk : List UInt8) (mh : Bool) (b : List UInt8) : ∀ a ∈ atsL nm mk mh b, a.1 ≠ 80 := by
  intro a ha
  unfold atsL nmA mkA spL at ha
  rcases List.mem_append.1 ha with ha | ha
  · split at ha
    · rw [List.mem_singleton.1 ha]; simp
    · simp at ha
  · rcases List.mem_append.1 ha with ha | ha
    · split at ha
      · rw [List.mem_singleton.1 ha]; simp
      · simp at ha
    · obtain ⟨k, -, rfl⟩ := List.mem_map.1 ha
      simp
/-- An ask that has room is sealed, and opened again. -/
theorem ask_seal (i : Int) (A S : List UInt8) {L : List (Int × List UInt8)} (hi : 0 ≤ i ∧ i ≤ 255) (h1 : L.all okA = true) (h2 : (bodyA L).length ≤ 4058) (h3 : ∀ a ∈ L, a.1 ≠ 80) : ∃ out, slV 1 i (q16 A) L S = (out, 0) ∧ out.length ≤ 4096 ∧ opnP out S = (1, i, q16 A, L, 0) := by
  have hm := idxM_no h3
  have hw : wrO 1 i (L ++ [(80, z16)]) = true := (wrO_iff _ _ _).2 ⟨rfl, hi.1, hi.2, by rw [List.all_append, h1]; decide, by
    rw [bodyA_snoc L z16 z16_len]
    simp only [List.length_append, z16_len, List.length_cons, List.length_nil]
    omega⟩
  refine ⟨wrS 1 i (q16 A) (seL 1 i (q16 A) L S), ?_, ?_, opn_seal i (q16 A) L S (q16_len _) (by omega) hw⟩
  · rw [slV_yes rfl hm, seV_yes hw]
  · have := (seV_le 1 i (q16 A) S L (q16_len _)).1
    rw [seV_yes hw] at this
    exact this
/-- An answer that has room is sealed, and opened again. -/
theorem answer_seal (c i : Int) (ak S : List UInt8) {L : List (Int × List UInt8)} (hc : c = 2 ∨ c = 3 ∨ c = 11) (hi : 0 ≤ i ∧ i ≤ 255) (h1 : L.all okA = true) (h2 : (bodyA L).length ≤ 4058) (h3 : ∀ a ∈ L, a.1 ≠ 80) : ∃ out A2, rpV c i (q16 ak) L S = (out, 0) ∧ out.length ≤ 4096 ∧ opdP out (q16 ak) S = (c, i, q16 A2, L, 0) := by
  have hm := idxM_no h3
  have hcd : isCd c = true := by rcases hc with rfl | rfl | rfl <;> rfl
  have hw : wrO c i (L ++ [(80, z16)]) = true := (wrO_iff _ _ _).2 ⟨hcd, hi.1, hi.2, by rw [List.all_append, h1]; decide, by
    rw [bodyA_snoc L z16 z16_len]
    simp only [List.length_append, z16_len, List.length_cons, List.length_nil]
    omega⟩
  have he : (seV c i (q16 ak) L S).2 = 0 := by rw [seV_yes hw]
  have hn1 : ¬ c = 1 := by omega
  have hv := rpV_y (sec := S) hn1 hm he
  have hle := (seV_le c i (q16 ak) S L (q16_len _)).1
  have hge := (seV_le c i (q16 ak) S L (q16_len _)).2.1 he
  have hwl := wrS_parts c i (q16 ak) (seL c i (q16 ak) L S) (md ((seV c i (q16 ak) L S).1 ++ S)) (q16_len _)
  have hs1 : (seV c i (q16 ak) L S).1 = wrS c i (q16 ak) (seL c i (q16 ak) L S) := by rw [seV_yes hw]
  refine ⟨_, md ((seV c i (q16 ak) L S).1 ++ S), hv, ?_, ?_⟩
  · simp only [List.length_append, md_len, List.length_take, List.length_drop]
    omega
  · rw [q16_self (md_len _)]
    rw [hs1] at hwl ⊢
    rw [hwl]
    exact opd_reply c i (q16 ak) L S _ (q16_len _) hn1 (by omega) hw rfl
end Go.Proofs.YtocfhkmdkdjinaaDoor

/- The laws of layer 22: ports. Printed by wp.py. -/
namespace Go.Proofs.YtocfhkmdkdjinaaDoor
open Go Go.RowKit
set_option linter.unusedVariables false
set_option linter.unusedSimpArgs false
set_option maxRecDepth 100000
set_option maxHeartbeats 8000000
attribute [local irreducible] inR VC RG VCn sq inS lq nq jq Wk
attribute [local simp] portC_len
theorem fnd_1 {nm mk : List UInt8} {mh : Bool} {b : List UInt8} (h : 0 < nm.length) : fnd 1 (atsL nm mk mh b) = (nm, true) := by
  unfold atsL
  rw [nmA_y h]
  show fnd 1 ((1, nm) :: _) = _
  unfold fnd
  rw [if_pos rfl]
def bobP : List UInt8 := [2, 0, 0, 8, 1, 98, 111, 98]
theorem bob_w : weV 2 0 1 [98, 111, 98] = (bobP, 0) := by decide
theorem bob_r : reP bobP = (2, 0, 1, [98, 111, 98], 0) := by decide
theorem bob_nm : nmP [] 1 [98, 111, 98] = [98, 111, 98] := rfl
theorem bob_ask : ∃ out, slV 1 0 (q16 (auP 0)) (atsL [98, 111, 98] [] false bobP) [115] = (out, 0) ∧ out.length ≤ 4096 ∧ opnP out [115] = (1, 0, q16 (auP 0), atsL [98, 111, 98] [] false bobP, 0) := by
  refine ask_seal 0 (auP 0) [115] (by omega) (ats_ok (by decide) (by decide)) ?_ (ats_no _ _ _ _)
  have := ats_body [98, 111, 98] [] false bobP
  have h2 : pcN bobP.length 253 = 1 := by decide
  have h3 : bobP.length = 8 := rfl
  rw [h2, h3] at this
  simp only [List.length_cons, List.length_nil] at this
  omega
theorem ats_v (nm mk : List UInt8) (mh : Bool) (b : List UInt8) (h1 : nm.length ≤ 1000) (h2 : mk.length ≤ 1000) : ∀ a ∈ atsL nm mk mh b, a.2.length ≤ 100000 := by
  intro a ha
  unfold atsL nmA mkA spL at ha
  rcases List.mem_append.1 ha with ha | ha
  · split at ha
    · rw [List.mem_singleton.1 ha]; simp only; omega
    · simp at ha
  · rcases List.mem_append.1 ha with ha | ha
    · split at ha
      · rw [List.mem_singleton.1 ha]; simp only; omega
      · simp at ha
    · obtain ⟨k, -, rfl⟩ := List.mem_map.1 ha
      show (pc b 253 k).length ≤ 100000
      unfold pc
      rw [List.length_take]
      omega
attribute [local irreducible] bodyA wrS wrO idxF idxM seV slV rpV rdO rdS prs rdP prC seL cutI opA ofP opnP opdP opdS md hm auP atsL sha fnd

namespace Uports_fc
theorem U : type_of% (@drop_rep UInt8) ∧ type_of% (@drop_rep D) ∧ type_of% (@List.take_zero UInt8) ∧ type_of% (@List.take_zero D) ∧ type_of% @q16_take ∧ type_of% @q16_len ∧ type_of% @q16_fold ∧ type_of% @q16_map ∧ type_of% @decL ∧ type_of% @decI ∧ type_of% @atR_len ∧ type_of% @atO_len ∧ type_of% @atR_sc ∧ type_of% @atR_tk := ⟨(@drop_rep UInt8), (@drop_rep D), (@List.take_zero UInt8), (@List.take_zero D), @q16_take, @q16_len, @q16_fold, @q16_map, @decL, @decI, @atR_len, @atO_len, @atR_sc, @atR_tk⟩
end Uports_fc
open Uports_fc
theorem ports_fc  : FC Tryd.prog GA 53 [] (.bool true) none := by
  refine fi_ 71 [0] ti_eq gpA Tryd.func53 (fun C hE hm hP hrc hrn => ?_)
  obtain ⟨out, hs, hol, hop⟩ := bob_ask
  have nf := (pnew_fc [115] 2 2 (by decide) (by decide) (by decide)).any (G := GA)
  have sf := (pstart_fc [115] 2 2 0 0 0 z16 [] [] false [] 0 0 (by decide)).any (G := GA)
  have pf := (packet_fc 2 0 1 [98, 111, 98] (by decide)).any (G := GA)
  have ff := pfrom_fc [115] 2 2 0 0 z16 [] [] false whoP 1 0 bobP 1 [98, 111, 98] out (by decide) (by decide) (by decide) bob_r hs (by omega)
  rw [bob_nm] at ff
  rw [bob_w] at pf
  obtain ⟨L, hL⟩ : ∃ L, L = atsL [98, 111, 98] [] false bobP := ⟨_, rfl⟩
  have hLl := atsL_len [98, 111, 98] [] false bobP (by decide)
  have hLv := ats_v [98, 111, 98] [] false bobP (by decide) (by decide)
  have hfd := fnd_1 (nm := [98, 111, 98]) (mk := []) (mh := false) (b := bobP) (by decide)
  rw [← hL] at hop hLl hLv hfd
  have opf := (open2_fc out [115] 1 0 (auP 0) L 0 (by omega) (by decide) hop).more GO_A
  have fdf := (find_fc L 1 (by omega) hLv).any (G := GA)
  rw [hfd] at fdf
  have tf := (pstate_fc [115] 2 2 2 0 (0 + 1) (auP 0) [98, 111, 98] [] false out 1 0).any (G := GA)
  refine vs ?_
  refine R_ hE ?_
  refine sq_n ?_
  refine vs ?_
  first | refine O_ ?_ | refine OD_ hm ?_
  refine G_ 2 hE ?_
  refine rg_w (sgb_ 12 11) ?_
  refine G_ 1 hE ?_
  refine rc_ hE hP (nf) Tryd.func52 ?_
  refine G_ 200 hE ?_
  first | refine rz ?_ | refine ZD_ ?_
  refine A_ ?_
  first | refine O_ ?_ | refine OD_ hm ?_
  refine G_ 1 hE ?_
  refine rc_ hE hP (sf) Tryd.func54 ?_
  refine G_ 200 hE ?_
  first | refine rz ?_ | refine ZD_ ?_
  refine A_ ?_
  first | refine O_ ?_ | refine OD_ hm ?_
  refine G_ 1 hE ?_
  refine rc_ hE hP (pf) Tryd.func58 ?_
  refine rg_w (sgb_ 26 26) ?_
  refine rc_ hE hP (ff) Tryd.func57 ?_
  refine G_ 200 hE ?_
  first | refine rz ?_ | refine ZD_ ?_
  refine A_ ?_
  refine wv_ (sgb_ 4 27) ?_
  first | refine O_ ?_ | refine OD_ hm ?_
  refine G_ 3 hE ?_
  refine rg_w (sgb_ 33 32) ?_
  refine rc_ hE hP (opf) Tryd.func39 ?_ (hm := by exact ma2_) (hnr := by exact nrt2_) (had := by exact adt2_)
  refine G_ 200 hE ?_
  first | refine rz ?_ | refine ZD_ ?_
  refine A_ ?_
  first | refine O_ ?_ | refine OD_ hm ?_
  refine G_ 2 hE ?_
  refine rc_ hE hP (fdf) Tryd.func47 ?_ (hm := by exact ma2_) (hnr := by exact nrt2_) (had := by exact adt2_)
  refine G_ 200 hE ?_
  first | refine rz ?_ | refine ZD_ ?_
  rw [show whoP = [1, 0, 0, 5, 1] from rfl]
  refine A_ ?_
  first | refine O_ ?_ | refine OD_ hm ?_
  refine G_ 3 hE ?_
  refine GT_ hE (rfl) ?_
  refine GT_ hE (rfl) ?_
  refine G_ 2 hE ?_
  refine GT_ hE (rfl) ?_
  refine GT_ hE (rfl) ?_
  refine G_ 2 hE ?_
  refine GT_ hE (rfl) ?_
  refine GT_ hE (rfl) ?_
  refine GT_ hE (rfl) ?_
  refine G_ 2 hE ?_
  refine GT_ hE (rfl) ?_
  refine G_ 2 hE ?_
  refine GT_ hE (rfl) ?_
  refine GT_ hE (rfl) ?_
  refine GT_ hE (rfl) ?_
  refine G_ 2 hE ?_
  refine GT_ hE (rfl) ?_
  refine rct_ hE hP (tf) Tryd.func56 (rfl) ?_
  refine G_ 200 hE ?_
  first | refine rz ?_ | refine ZD_ ?_
  refine A_ ?_
  exact ret_
end Go.Proofs.YtocfhkmdkdjinaaDoor
