/- What the claim leans on, text Zpi: Po9. No condition beyond what each lemma states. -/
import Derived.Test.YtocfhkmdkdjinaaDoorZd
import Derived.Test.YtocfhkmdkdjinaaDoorZt
import Derived.Test.YtocfhkmdkdjinaaDoorZpf
import Derived.Test.YtocfhkmdkdjinaaDoorZph

/- PortIds returns true. Printed by wp.py. -/
namespace Go.Proofs.YtocfhkmdkdjinaaDoor
open Go Go.RowKit
set_option linter.unusedVariables false
set_option linter.unusedSimpArgs false
set_option maxRecDepth 100000
set_option maxHeartbeats 8000000
attribute [local irreducible] inR VC RG VCn sq inS lq nq jq Wk
theorem nmL_portI (S : List UInt8) (T W st id n : Int) (au nm mk : List UInt8) (mh : Bool) (sd : List UInt8) (tr il : Int) : nmL (portC S T W st id n au nm mk mh sd tr il) = [] := rfl
attribute [local simp] portC_len nmL_portI
theorem replyI_fc (c i : Int) (au ak : List UInt8) (L : List (Int × List UInt8)) (sec : List UInt8) (hL : L.length ≤ 1000000) (hs : sec.length ≤ 100000) : FC Tryd.prog GO 20 [.agg [.int .i64 c, .int .i64 i, .u8 (gb au 0), .u8 (gb au 1), .u8 (gb au 2), .u8 (gb au 3), .u8 (gb au 4), .u8 (gb au 5), .u8 (gb au 6), .u8 (gb au 7), .u8 (gb au 8), .u8 (gb au 9), .u8 (gb au 10), .u8 (gb au 11), .u8 (gb au 12), .u8 (gb au 13), .u8 (gb au 14), .u8 (gb au 15), .owns 2 L.length (atO L)], (.aggb (q16 ak)), .rob sec] (.tup [.ownb (rpV c i (q16 ak) L sec).1, .int .i64 (rpV c i (q16 ak) L sec).2]) none := by
  have h := reply_fc c i au ak L sec hL hs
  rw [← atO_frz] at h
  exact FC.frzA (pre := [.int .i64 c, .int .i64 i, .u8 (gb au 0), .u8 (gb au 1), .u8 (gb au 2), .u8 (gb au 3), .u8 (gb au 4), .u8 (gb au 5), .u8 (gb au 6), .u8 (gb au 7), .u8 (gb au 8), .u8 (gb au 9), .u8 (gb au 10), .u8 (gb au 11), .u8 (gb au 12), .u8 (gb au 13), .u8 (gb au 14), .u8 (gb au 15)]) rfl (atO_fr L) h
theorem joI_sp (l : List UInt8) : ∀ n, joA (spL l (List.range n)) = l.take (n * 253)
  | 0 => by rw [Nat.zero_mul, List.take_zero]; rfl
  | n + 1 => by
    have e : joA [((79 : Int), pc l 253 n)] = pc l 253 n := by unfold joA; rw [if_pos rfl]; unfold joA; rw [List.append_nil]
    rw [List.range_succ, spL_s, joA_app, joI_sp l n, e]
    unfold pc
    rw [Nat.succ_mul, List.take_add]
theorem joI_split (l : List UInt8) : joA (spL l (List.range (pcN l.length 253))) = l := by
  rw [joI_sp, List.take_of_length_le]
  unfold pcN
  omega
theorem fndI_no {kind : Int} : ∀ (L : List (Int × List UInt8)), (∀ a ∈ L, a.1 ≠ kind) → fnd kind L = ([], false)
  | [], _ => rfl
  | a :: L, h => by
    unfold fnd
    rw [if_neg (h a List.mem_cons_self)]
    exact fndI_no L (fun b hb => h b (List.mem_cons_of_mem _ hb))
theorem spL_79 (l : List UInt8) (ks : List Nat) : ∀ a ∈ spL l ks, a.1 = 79 := by
  intro a ha
  unfold spL at ha
  obtain ⟨k, -, rfl⟩ := List.mem_map.1 ha
  rfl
theorem spL_v (l : List UInt8) (ks : List Nat) : ∀ a ∈ spL l ks, a.2.length ≤ 253 := by
  intro a ha
  unfold spL at ha
  obtain ⟨k, -, rfl⟩ := List.mem_map.1 ha
  show (pc l 253 k).length ≤ 253
  unfold pc
  rw [List.length_take]
  omega
/-- A packet of EAP in form: its bytes, and back. -/
theorem wr_ok {c i t : Int} {d : List UInt8} (h : szE c i t d.length ≠ 0) : ∃ B, weV c i t d = (B, 0) ∧ reP B = (c, i, t, d, 0) ∧ B.length = szE c i t d.length := by
  obtain ⟨h1, h2⟩ := re_we h
  exact ⟨weS c i t d, weV_1 h, h1, h2⟩
/-- The answer that hands a packet of EAP over. -/
theorem hand_seal (c i : Int) (ak S b : List UInt8) (hc : c = 2 ∨ c = 3 ∨ c = 11) (hi : 0 ≤ i ∧ i ≤ 255) (hb : b.length ≤ 3000) : ∃ out A2, rpV c i (q16 ak) (spL b (List.range (pcN b.length 253))) S = (out, 0) ∧ out.length ≤ 4096 ∧ opdP out (q16 ak) S = (c, i, q16 A2, spL b (List.range (pcN b.length 253)), 0) := by
  refine answer_seal c i ak S hc hi ?_ ?_ ?_
  · exact List.all_eq_true.2 fun a ha => (okA_iff _).2 ⟨by rw [spL_79 b _ a ha]; decide, by rw [spL_79 b _ a ha]; decide, spL_v b _ a ha⟩
  · rw [bodyA_split]
    have : pcN b.length 253 ≤ 12 := by unfold pcN; omega
    omega
  · intro a ha
    rw [spL_79 b _ a ha]
    decide
def idJ : Nat → Int
  | 0 => 0
  | k + 1 => (k : Int) % 200
def inJ : Nat → List UInt8
  | 0 => bobP
  | k + 1 => (weV 2 ((k : Int) % 200) 13 [120]).1
def nmJ : Nat → List UInt8
  | 0 => []
  | _ + 1 => [98, 111, 98]
theorem ids_in (k : Nat) : ∃ t d, reP (inJ k) = (2, idJ k, t, d, 0) ∧ nmP (nmJ k) t d = [98, 111, 98] ∧ (inJ k).length ≤ 10 := by
  rcases k with _ | k
  · exact ⟨1, [98, 111, 98], bob_r, rfl, by decide⟩
  · have hs : szE 2 ((k : Int) % 200) 13 ([120] : List UInt8).length = 5 + 1 := szE_two (.inr rfl) (by omega) (by omega) (by decide)
    obtain ⟨B, h1, h2, h3⟩ := wr_ok (d := [120]) (by rw [hs]; decide)
    refine ⟨13, [120], ?_, rfl, ?_⟩
    · show reP (weV 2 ((k : Int) % 200) 13 [120]).1 = _
      rw [h1]
      exact h2
    · show (weV 2 ((k : Int) % 200) 13 [120]).1.length ≤ 10
      rw [h1]
      show B.length ≤ 10
      omega
theorem ids_ask (k : Nat) : ∃ out, slV 1 ((k : Int) % 256) (q16 (auP k)) (atsL [98, 111, 98] [] false (inJ k)) [115] = (out, 0) ∧ out.length ≤ 4096 ∧ opnP out [115] = (1, (k : Int) % 256, q16 (auP k), atsL [98, 111, 98] [] false (inJ k), 0) := by
  refine ask_seal ((k : Int) % 256) (auP k) [115] (by omega) (ats_ok (by decide) (by decide)) ?_ (ats_no _ _ _ _)
  have := ats_body [98, 111, 98] [] false (inJ k)
  obtain ⟨_, _, _, _, h3⟩ := ids_in k
  have h2 : pcN (inJ k).length 253 ≤ 1 := by unfold pcN; omega
  simp only [List.length_cons, List.length_nil] at this
  omega
theorem ids_next (k : Nat) (D : List UInt8) (hD : D.length ≤ 20) : ∃ B, weV 1 ((k : Int) % 200) 13 D = (B, 0) ∧ reP B = (1, (k : Int) % 200, 13, D, 0) ∧ B.length ≤ 100 := by
  have hs : szE 1 ((k : Int) % 200) 13 D.length = 5 + D.length := szE_two (.inl rfl) (by omega) (by omega) (by omega)
  obtain ⟨B, h1, h2, h3⟩ := wr_ok (d := D) (by rw [hs]; omega)
  exact ⟨B, h1, h2, by omega⟩
theorem idJ_0 : idJ 0 = 0 := rfl
theorem inJ_0 : inJ 0 = bobP := rfl
theorem nmJ_0 : nmJ 0 = [] := rfl
theorem idJ_s (k : Nat) : idJ (k + 1) = (k : Int) % 200 := rfl
theorem inJ_s (k : Nat) : inJ (k + 1) = (weV 2 ((k : Int) % 200) 13 [120]).1 := rfl
theorem nmJ_s (k : Nat) : nmJ (k + 1) = [98, 111, 98] := rfl
theorem tkI_min (v : List UInt8) (n : Nat) : List.take (min (v.length : Int) (n : Int)).toNat v = v.take n := by
  rcases Nat.lt_or_ge n v.length with h | h
  · rw [show (min (v.length : Int) (n : Int)).toNat = n by omega]
  · rw [List.take_of_length_le (by omega), List.take_of_length_le h]
attribute [local irreducible] bodyA wrS wrO idxF idxM seV slV rpV rdO rdS prs rdP prC seL cutI opA ofP opnP opdP opdS md hm auP atsL sha fnd joA spL weV idJ inJ nmJ

namespace UportIds_fc
theorem U : type_of% (@drop_rep UInt8) ∧ type_of% (@drop_rep D) ∧ type_of% (@List.take_zero UInt8) ∧ type_of% (@List.take_zero D) ∧ type_of% @q16_take ∧ type_of% @q16_len ∧ type_of% @q16_fold ∧ type_of% @q16_map ∧ type_of% @decL ∧ type_of% @decI ∧ type_of% @atR_len ∧ type_of% @atO_len ∧ type_of% @atR_sc ∧ type_of% @atR_tk := ⟨(@drop_rep UInt8), (@drop_rep D), (@List.take_zero UInt8), (@List.take_zero D), @q16_take, @q16_len, @q16_fold, @q16_map, @decL, @decI, @atR_len, @atO_len, @atR_sc, @atR_tk⟩
end UportIds_fc
open UportIds_fc
theorem portIds_fc (a : Int) (lb : List UInt8) : FC Tryd.prog GA 16 [.int .i64 a, .rob lb] (.bool true) none := by
  refine fi_ 144 [4] ti_eq gpA Tryd.func16 (fun C hE hm hP hrc hrn => ?_)
  have hw1 := wr64 a
  have t2 : List.take (min (lb.length : Int) 20).toNat lb = lb.take 20 := tkI_min lb 20
  have n2 : (lb.take 20).length ≤ 20 := by rw [List.length_take]; omega
  obtain ⟨dt, hD⟩ : ∃ dt, dt = lb.take 20 := ⟨_, rfl⟩
  rw [← hD] at n2 t2
  obtain ⟨K, hK⟩ : ∃ K : Nat, IntKind.u64.wrap a % 300 = K := ⟨(IntKind.u64.wrap a % 300).toNat, by omega⟩
  have hK2 : K ≤ 300 := by omega
  have nf := (pnew_fc [115] 1 5 (by decide) (by decide) (by decide)).any (G := GA)
  have sf := (pstart_fc [115] 1 5 0 0 0 z16 [] [] false [] 0 0 (by decide)).any (G := GA)
  have pf := (packet_fc 2 0 1 [98, 111, 98] (by decide)).any (G := GA)
  rw [bob_w] at pf
  refine A_ ?_
  rw [hK, t2]
  clear hK hw1
  first | refine O_ ?_ | refine OD_ hm ?_
  refine G_ 2 hE ?_
  refine rg_w (sgb_ 33 32) ?_
  refine G_ 1 hE ?_
  refine rc_ hE hP (nf) Tryd.func52 ?_
  refine G_ 200 hE ?_
  first | refine rz ?_ | refine ZD_ ?_
  refine A_ ?_
  first | refine O_ ?_ | refine OD_ hm ?_
  refine rc_ hE hP (ports_fc) Tryd.func53 ?_
  refine G_ 2 hE ?_
  refine GT_ hE (rfl) ?_
  refine GT_ hE (rfl) ?_
  refine G_ 200 hE ?_
  first | refine rz ?_ | refine ZD_ ?_
  refine A_ ?_
  first | refine O_ ?_ | refine OD_ hm ?_
  refine G_ 1 hE ?_
  refine rc_ hE hP (sf) Tryd.func54 ?_
  refine G_ 200 hE ?_
  first | refine rz ?_ | refine ZD_ ?_
  refine A_ ?_
  first | refine O_ ?_ | refine OD_ hm ?_
  refine rc_ hE hP (pf) Tryd.func58 ?_
  refine G_ 200 hE ?_
  first | refine rz ?_ | refine ZD_ ?_
  refine sq_n ?_
  refine wv_ (sgb_ 7 46) ?_
  refine A_ ?_
  refine vl (fun a : Nat × List UInt8 × List UInt8 => ⟨[(0, .int .i64 K), (1, .rob dt), (4, .bool false), (5, .ptr 35 1 0), (7, .rob (inJ a.1)), (8, .int .i64 a.1)], [(35, ⟨⟨1, 1, 124⟩, some (.cells (portC [115] 1 5 1 (idJ a.1) a.1 a.2.1 (nmJ a.1) [] false a.2.2 1 0))⟩)], []⟩) (fun a => a.1 ≤ K) (fun a => K - a.1) (0, z16, whoP) ?_ (Nat.zero_le _) ?_
  · rw [show inJ 0 = bobP from inJ_0, show idJ 0 = 0 from idJ_0, show nmJ 0 = [] from nmJ_0]
    exact wk_ hrc
  rintro ⟨k, au, sd⟩ hk
  simp only at hk ⊢
  by_cases hkK : k < K
  · obtain ⟨t, d, hr, hnm, hil⟩ := ids_in k
    obtain ⟨out, hs, hol, hop⟩ := ids_ask k
    obtain ⟨B, hBw, hBr, hBl⟩ := ids_next k dt n2
    obtain ⟨wr, A2, hwr, hwl, hwo⟩ := hand_seal 11 (((k : Int) % 256 + 1) % 256) (auP k) [115] B (by omega) (by omega) (by omega)
    obtain ⟨rt, A3, hrt, hrl, hro⟩ := hand_seal 11 ((k : Int) % 256) (auP k) [115] B (by omega) (by omega) (by omega)
    have ff := pfrom_fc [115] 1 5 (idJ k) k au (nmJ k) [] false sd 1 0 (inJ k) t d out (by omega) (by decide) (by omega) hr (by rw [hnm]; exact hs) (by omega)
    rw [hnm] at ff
    obtain ⟨L, hL⟩ : ∃ L, L = atsL [98, 111, 98] [] false (inJ k) := ⟨_, rfl⟩
    have hLl := atsL_len [98, 111, 98] [] false (inJ k) (by omega)
    rw [← hL] at hop hLl
    have opf := (open2_fc out [115] 1 ((k : Int) % 256) (auP k) L 0 (by omega) (by decide) hop).more GO_A
    have pf2 := (packet_fc 1 ((k : Int) % 200) 13 dt (by omega)).any (G := GA)
    rw [hBw] at pf2
    have pf3 := (packet_fc 2 ((k : Int) % 200) 13 [120] (by decide)).any (G := GA)
    rw [← inJ_s] at pf3
    have spf := (split_fc B (by omega)).any (G := GA)
    have hj := joI_split B
    have hPl : (spL B (List.range (pcN B.length 253))).length ≤ 10 := by rw [spL_len, List.length_range]; unfold pcN; omega
    have hP79 := spL_79 B (List.range (pcN B.length 253))
    have hPv := spL_v B (List.range (pcN B.length 253))
    obtain ⟨P, hP0⟩ : ∃ P, P = spL B (List.range (pcN B.length 253)) := ⟨_, rfl⟩
    rw [← hP0] at hwr hwo hrt hro spf hj hPl hP79 hPv
    have hfd : fnd 24 P = ([], false) := fndI_no P (fun a ha => by rw [hP79 a ha]; decide)
    have rf1 := (replyI_fc 11 (((k : Int) % 256 + 1) % 256) z16 (auP k) P [115] (by omega) (by decide)).more GO_A
    have rf2 := (replyI_fc 11 ((k : Int) % 256) z16 (auP k) P [115] (by omega) (by decide)).more GO_A
    rw [hwr] at rf1
    rw [hrt] at rf2
    simp only [z16_gb] at rf1 rf2
    have sv1 := (pserver_id [115] 1 5 (idJ k) ((k : Int) + 1) (auP k) [98, 111, 98] [] false out 1 0 wr A2 P 11 (((k : Int) % 256 + 1) % 256) (by omega) (by decide) (by omega) hwo (by omega)).more GO_A
    have sv2 := (pserver_ask [115] 1 5 (idJ k) ((k : Int) + 1) (auP k) [98, 111, 98] [] false out 1 0 rt A3 P ((k : Int) % 200) 13 dt (by omega) (by decide) (by omega) (by omega) (fun a ha => by have := hPv a ha; omega) (by rw [hj]; omega) (by rw [show (k : Int) + 1 - 1 = (k : Int) by omega]; exact hro) (by rw [hj]; exact hBr)).more GO_A
    rw [hj, hfd] at sv2
    have tf := (pstate_fc [115] 1 5 1 ((k : Int) % 200) ((k : Int) + 1) (auP k) [98, 111, 98] [] false B 1 0).any (G := GA)
    refine A_ ?_
    refine C_ hE (fun hc => ?_) (fun hc => ?_) <;> (try (exfalso; omega))
    refine A_ ?_
    first | refine O_ ?_ | refine OD_ hm ?_
    refine G_ 2 hE ?_
    refine rc_ hE hP (ff) Tryd.func57 ?_
    refine G_ 200 hE ?_
    first | refine rz ?_ | refine ZD_ ?_
    refine A_ ?_
    refine wv_ (sgb_ 9 55) ?_
    first | refine O_ ?_ | refine OD_ hm ?_
    refine G_ 3 hE ?_
    refine rg_w (sgb_ 61 60) ?_
    refine rc_ hE hP (opf) Tryd.func39 ?_ (hm := by exact ma2_) (hnr := by exact nrt2_) (had := by exact adt2_)
    refine G_ 200 hE ?_
    first | refine rz ?_ | refine ZD_ ?_
    refine A_ ?_
    first | refine O_ ?_ | refine OD_ hm ?_
    refine G_ 4 hE ?_
    refine rc_ hE hP (pf2) Tryd.func58 ?_
    refine G_ 200 hE ?_
    first | refine rz ?_ | refine ZD_ ?_
    refine A_ ?_
    first | refine O_ ?_ | refine OD_ hm ?_
    refine G_ 5 hE ?_
    refine rc_ hE hP (spf) Tryd.func46 ?_ (hm := by exact ma2_) (hnr := by exact nrt2_) (had := by exact adt2_)
    refine G_ 5 hE ?_
    refine rco_ hE hP (rf1) Tryd.func20 ?_ (hm := by exact ma4_)
    refine G_ 200 hE ?_
    first | refine rz ?_ | refine ZD_ ?_
    refine A_ ?_
    first | refine O_ ?_ | refine OD_ hm ?_
    refine G_ 3 hE ?_
    refine rc_ hE hP (spf) Tryd.func46 ?_ (hm := by exact ma2_) (hnr := by exact nrt2_) (had := by exact adt2_)
    refine G_ 5 hE ?_
    refine rco_ hE hP (rf2) Tryd.func20 ?_ (hm := by exact ma4_)
    refine G_ 200 hE ?_
    first | refine rz ?_ | refine ZD_ ?_
    refine A_ ?_
    refine wv_ (sgb_ 14 95) ?_
    first | refine O_ ?_ | refine OD_ hm ?_
    refine G_ 2 hE ?_
    refine rc_ hE hP (sv1) Tryd.func59 ?_
    refine G_ 200 hE ?_
    first | refine rz ?_ | refine ZD_ ?_
    refine A_ ?_
    refine wv_ (sgb_ 16 108) ?_
    first | refine O_ ?_ | refine OD_ hm ?_
    refine G_ 2 hE ?_
    refine rc_ hE hP (sv2) Tryd.func59 ?_
    refine G_ 200 hE ?_
    first | refine rz ?_ | refine ZD_ ?_
    refine A_ ?_
    first | refine O_ ?_ | refine OD_ hm ?_
    refine G_ 3 hE ?_
    refine GT_ hE (rfl) ?_
    refine GT_ hE (rfl) ?_
    refine G_ 2 hE ?_
    refine GT_ hE (rfl) ?_
    refine GT_ hE (rfl) ?_
    refine GT_ hE (rfl) ?_
    refine GT_ hE (rfl) ?_
    refine GT_ hE (rfl) ?_
    refine G_ 2 hE ?_
    refine GT_ hE (rfl) ?_
    refine rct_ hE hP (tf) Tryd.func56 (rfl) ?_
    refine GT_ hE (rfl) ?_
    refine G_ 200 hE ?_
    first | refine rz ?_ | refine ZD_ ?_
    refine A_ ?_
    first | refine O_ ?_ | refine OD_ hm ?_
    refine G_ 2 hE ?_
    refine rc_ hE hP (pf3) Tryd.func58 ?_
    refine G_ 200 hE ?_
    first | refine rz ?_ | refine ZD_ ?_
    refine in_n ?_
    refine sq_n ?_
    refine wv_ (sgb_ 7 143) ?_
    refine A_ ?_
    refine lq_n (k + 1, auP k, B) ?_ (by simp only; omega) (by simp only; omega)
    simp only
    rw [idJ_s, nmJ_s]
    exact wk_ hrc
  · obtain rfl : k = K := by omega
    refine A_ ?_
    refine C_ hE (fun hc => ?_) (fun hc => ?_) <;> (try (exfalso; omega))
    refine A_ ?_
    exact ret_
end Go.Proofs.YtocfhkmdkdjinaaDoor
