/- What the claim leans on, text Zpl: Wd7, Po11, Po12. No condition beyond what each lemma states. -/
import Derived.Test.YtocfhkmdkdjinaaDoorZra
import Derived.Test.YtocfhkmdkdjinaaDoorZd
import Derived.Test.YtocfhkmdkdjinaaDoorZt
import Derived.Test.YtocfhkmdkdjinaaDoorZpb
import Derived.Test.YtocfhkmdkdjinaaDoorZpi

/- A receiver's function whose results are a cell's value and a slot's. -/
namespace Go.Proofs.YtocfhkmdkdjinaaDoor
open Go Go.RowKit
set_option linter.unusedVariables false
set_option linter.unusedSimpArgs false
section
variable {P : Program} {Ti : Nat → TI} {G : Nat → Option D} {f : Nat} {fn : Func} {c : Code} {ins : List D} {res : D} {s0 s s2 : St}
theorem foct_ {outs : List D} {t ty u : Nat} (nt : Nat) (hti : tiOf P = Ti) (gp : ∀ g cs, G g = some cs → cs.pf0 = true) (hf : P.funcs[f]? = some fn)
    (h : ∀ C, Env C Ti G nt → C.P.follows .mixedOrders = true → C.P = P → (∀ d v, C.keep d v → d = .ptr 900 1 0) → C.rnd = none → VC C c s0 (RetCT Ti t ty u res (some outs)))
    (hb : fn.body = some c := by exact rfl) (hrs : fn.results = #[.cell t ty, .tmp u] := by exact rfl) (ht : (Nat.blt t fn.ntmps && !(Nat.beq t u)) = true := by exact rfl) (hn : Nat.ble ins.length fn.ntmps = true := by exact rfl) (had : D.adL ins = true := by simp [D.adL, D.ad1, D.fr0, D.pf1, D.pf0, D.pf]) (hi : inSt ins = s0 := by simp only [inSt, adoptT, adoptL, adopt1, numb, St.lay1, St.nxt, St.lay, St.sh, St.ob, look, Z, U]; rfl) (hnt : fn.ntmps = nt := by exact rfl) (hpm : P.follows .mixedOrders = true := by kernel_rfl) (ho : OutOk ins (some outs) := by exact ⟨_, _, rfl⟩) : FC P G f ins res (some outs) := by
  simp only [Bool.and_eq_true, Nat.blt_eq, Bool.not_eq_true'] at ht
  subst hi
  exact fc_ofct hti gp hf hb hrs ht.1 (fun e => by have := ht.2; rw [e] at this; simp at this) (Nat.le_of_ble_eq_true hn) had ho fun C hC => h C (hnt ▸ hC.env) (by rw [hC.p]; exact hpm) hC.p hC.recv9 hC.rn
theorem retrct_ {t ty u : Nat} {cs : List D} {e : Exit} {own fro own' fro' R : List Nat} {g : Prop} {d d' : D} (he : e = .normal ∨ e = .ret := by first | exact .inl rfl | exact .inr rfl) (el : ldD Ti s.ob ty (s.slot t) = some (g, d, R) := by exact rfl) (hd : d = d' := by exact nr_) (hg : g := by exact sg_) (hs : s.put t d' = s2 := by exact nr_) (h : Mat s2 (resD [t, u] s2) res own fro := by exact mr_) (hr : Mat s2 (.ptr 900 1 0) (.ownp cs) own' fro' := by first | (apply mat_pf rfl rfl rfl rfl; (first | rfl | assumption | (simp only [Z, U, Int.cast_ofNat_Int, UInt8.reduceToNat, UInt32.reduceToNat, Nat.reduceAdd, Nat.reduceMul, Nat.reduceSub, Nat.reduceLeDiff, Int.reduceToNat, Int.reducePow, Nat.reducePow] <;> fail) | (simp <;> fail) | (simp [List.take_of_length_le] <;> fail))) | exact ml_) (hnd : (own ++ own').Nodup := by decide) (hdis : ∀ o ∈ own ++ own', o ∉ fro ++ fro' := by decide) : RetCT Ti t ty u res (some cs) e s := ⟨he, g, d, R, el, hg, by rw [hd, hs]; exact fin2 rfl h hr hnd hdis⟩
end
end Go.Proofs.YtocfhkmdkdjinaaDoor

/- port: Keys of a port that is not open. Printed by wp.py. -/
namespace Go.Proofs.YtocfhkmdkdjinaaDoor
open Go Go.RowKit
set_option linter.unusedVariables false
set_option linter.unusedSimpArgs false
set_option maxRecDepth 100000
set_option maxHeartbeats 4000000
attribute [local irreducible] inR VC RG VCn sq inS lq nq jq Wk
attribute [local simp] portC_len

namespace Ukeys_no
theorem U : type_of% (@drop_rep UInt8) ∧ type_of% (@drop_rep D) ∧ type_of% (@List.take_zero UInt8) ∧ type_of% (@List.take_zero D) := ⟨(@drop_rep UInt8), (@drop_rep D), (@List.take_zero UInt8), (@List.take_zero D)⟩
end Ukeys_no
open Ukeys_no
theorem keys_no (S : List UInt8) (T W st id n : Int) (au nm mk : List UInt8) (mh : Bool) (sd : List UInt8) (tr il : Int) (hst : ¬ st = 3) : FC Tryd.prog GE 61 [.ownp (portC S T W st id n au nm mk mh sd tr il)] (.tup [.aggb (List.replicate 64 0), .bool false]) (some (portC S T W st id n au nm mk mh sd tr il)) := by
  unfold portC
  refine foct_ 12 ti_eq gpE Tryd.func61 (fun C hE hm hP hr9 hrn => ?_)
  have pf := pstate_fc S T W st id n au nm mk mh sd tr il
  unfold portC at pf
  refine A_ ?_
  first | refine O_ ?_ | refine OD_ hm ?_
  refine G_ 1 hE ?_
  refine rc_ hE hP (pf) Tryd.func56 ?_
  refine G_ 200 hE ?_
  first | refine rz ?_ | refine ZD_ ?_
  refine A_ ?_
  rw [decide_eq_false hst]
  refine A_ ?_
  exact retrct_
end Go.Proofs.YtocfhkmdkdjinaaDoor

/- PortShuts returns true. Printed by wp.py. -/
namespace Go.Proofs.YtocfhkmdkdjinaaDoor
open Go Go.RowKit
set_option linter.unusedVariables false
set_option linter.unusedSimpArgs false
set_option maxRecDepth 100000
set_option maxHeartbeats 16000000
attribute [local irreducible] inR VC RG VCn sq inS lq nq jq Wk
attribute [local simp] portC_len nmL_portI auP_len
theorem joA_24 (st : List UInt8) : joA [((24 : Int), st)] = [] := by unfold joA; rw [if_neg (by simp)]; rfl
theorem fnd_n24 {nm b : List UInt8} : fnd 24 (atsL nm [] false b) = ([], false) := by
  refine fndI_no _ fun a ha => ?_
  unfold atsL at ha
  rcases List.mem_append.1 ha with ha | ha
  · unfold nmA at ha
    split at ha
    · rw [List.mem_singleton.1 ha]; simp
    · simp at ha
  · rcases List.mem_append.1 ha with ha | ha
    · unfold mkA at ha
      simp at ha
    · rw [spL_79 _ _ a ha]; decide
theorem shut_ask (k : Nat) (m B : List UInt8) (hm : m.length ≤ 61) (hB : B.length ≤ 70) : ∃ out, slV 1 ((k : Int) % 256) (q16 (auP k)) (atsL m [] false B) [115] = (out, 0) ∧ out.length ≤ 4096 ∧ opnP out [115] = (1, (k : Int) % 256, q16 (auP k), atsL m [] false B, 0) := by
  refine ask_seal ((k : Int) % 256) (auP k) [115] (by omega) (ats_ok (by omega) (by decide)) ?_ (ats_no _ _ _ _)
  have := ats_body m [] false B
  have h2 : pcN B.length 253 ≤ 2 := by unfold pcN; omega
  simp only [List.length_nil] at this
  omega
theorem shut_ans (i : Int) (ak st b : List UInt8) (hi : 0 ≤ i ∧ i ≤ 255) (hs : st.length ≤ 60) (hb : b.length ≤ 10) : ∃ out A2, rpV 3 i (q16 ak) (spL b (List.range (pcN b.length 253)) ++ [(24, st)]) [115] = (out, 0) ∧ out.length ≤ 4096 ∧ opdP out (q16 ak) [115] = (3, i, q16 A2, spL b (List.range (pcN b.length 253)) ++ [(24, st)], 0) := by
  refine answer_seal 3 i ak [115] (.inr (.inl rfl)) hi ?_ ?_ ?_
  · rw [List.all_append]
    have h1 : (spL b (List.range (pcN b.length 253))).all okA = true := List.all_eq_true.2 fun a ha => (okA_iff _).2 ⟨by rw [spL_79 b _ a ha]; decide, by rw [spL_79 b _ a ha]; decide, spL_v b _ a ha⟩
    have h2 : [((24 : Int), st)].all okA = true := by
      simp only [List.all_cons, List.all_nil, Bool.and_true]
      exact (okA_iff _).2 ⟨by simp, by simp, by simp only; omega⟩
    rw [h1, h2]
    rfl
  · rw [bodyA_app, List.length_append, bodyA_split, bodyA_one, enA_len]
    have : pcN b.length 253 ≤ 1 := by unfold pcN; omega
    simp only
    omega
  · intro a ha
    rcases List.mem_append.1 ha with ha | ha
    · rw [spL_79 b _ a ha]
      decide
    · rw [List.mem_singleton.1 ha]
      simp
theorem replyJ_fc (c i : Int) (au ak : List UInt8) (P : List (Int × List UInt8)) (st : List UInt8) (sec : List UInt8) (hL : P.length ≤ 100000) (hs : sec.length ≤ 100000) : FC Tryd.prog GO 20 [.agg [.int .i64 c, .int .i64 i, .u8 (gb au 0), .u8 (gb au 1), .u8 (gb au 2), .u8 (gb au 3), .u8 (gb au 4), .u8 (gb au 5), .u8 (gb au 6), .u8 (gb au 7), .u8 (gb au 8), .u8 (gb au 9), .u8 (gb au 10), .u8 (gb au 11), .u8 (gb au 12), .u8 (gb au 13), .u8 (gb au 14), .u8 (gb au 15), .owns 2 (P.length + 1) (atO P ++ [.int .i64 24, .rob st])], (.aggb (q16 ak)), .rob sec] (.tup [.ownb (rpV c i (q16 ak) (P ++ [(24, st)]) sec).1, .int .i64 (rpV c i (q16 ak) (P ++ [(24, st)]) sec).2]) none := by
  have h := reply_fc c i au ak (P ++ [(24, st)]) sec (by rw [List.length_append]; simp only [List.length_cons, List.length_nil]; omega) hs
  have e1 : (P ++ [((24 : Int), st)]).length = P.length + 1 := by simp
  have e2 : atR (P ++ [((24 : Int), st)]) = (atO P ++ [D.int .i64 24, D.rob st]).map frz := by
    rw [List.map_append, atO_frz, ← atR_app]
    rfl
  rw [e1, e2] at h
  exact FC.frzA (pre := [.int .i64 c, .int .i64 i, .u8 (gb au 0), .u8 (gb au 1), .u8 (gb au 2), .u8 (gb au 3), .u8 (gb au 4), .u8 (gb au 5), .u8 (gb au 6), .u8 (gb au 7), .u8 (gb au 8), .u8 (gb au 9), .u8 (gb au 10), .u8 (gb au 11), .u8 (gb au 12), .u8 (gb au 13), .u8 (gb au 14), .u8 (gb au 15)]) rfl (by rw [List.all_append, atO_fr]; rfl) h
theorem atO1_len (L : List (Int × List UInt8)) (st : List UInt8) : (atO L ++ [D.int .i64 24, D.rob st]).length = (L.length + 1) * 2 := by
  rw [List.length_append, atO_len]
  simp only [List.length_cons, List.length_nil]
  omega
theorem atO1_fr (L : List (Int × List UInt8)) (st : List UInt8) : (atO L ++ [D.int .i64 24, D.rob st]).all D.fr0 = true := by
  rw [List.all_append, atO_fr]
  rfl
/-- What is handed over. -/
theorem ma5_ {s : St} {d d2 : D} {own fro : List Nat} (h : Mat s d d2 own fro := by (repeat' (first | exact .tnil | apply mcf rfl | exact mat_eq rfl rfl | apply Mat.agg | exact mat_n2 | exact mat_r2 rfl rfl rfl rfl | exact mat_s2 rfl rfl rfl rfl | (apply mat_slf rfl rfl rfl rfl <;> first | rfl | exact atR_len _ | exact atO_len _ | exact atS_len _ | exact atR_fr _ | exact atO_fr _ | exact atO1_len _ _ | exact atO1_fr _ _ | exact atS_fr _ | omega) | apply mat_i | apply mat_bl | apply mat_u8 | apply mat_st | apply mat_ab | apply mat_rbe | apply mat_nrb | (apply mat_r0 rfl rfl rfl <;> first | rfl | (simp <;> fail) | (simp; omega) | omega) | apply mat_rb rfl rfl rfl | apply mc)) <;> first | rfl | assumption | (simp <;> fail) | omega | (simp [List.take_of_length_le] <;> fail)) : Mat s d d2 own fro := h
attribute [local irreducible] bodyA wrS wrO idxF idxM seV slV rpV rdO rdS prs rdP prC seL cutI opA ofP opnP opdP opdS md hm auP atsL sha fnd joA spL weV

namespace UportShuts_fc
theorem U : type_of% (@drop_rep UInt8) ∧ type_of% (@drop_rep D) ∧ type_of% (@List.take_zero UInt8) ∧ type_of% (@List.take_zero D) ∧ type_of% @q16_take ∧ type_of% @q16_len ∧ type_of% @q16_fold ∧ type_of% @q16_map ∧ type_of% @decL ∧ type_of% @decI ∧ type_of% @atR_len ∧ type_of% @atO_len ∧ type_of% @atR_sc ∧ type_of% @atR_tk := ⟨(@drop_rep UInt8), (@drop_rep D), (@List.take_zero UInt8), (@List.take_zero D), @q16_take, @q16_len, @q16_fold, @q16_map, @decL, @decI, @atR_len, @atO_len, @atR_sc, @atR_tk⟩
end UportShuts_fc
open UportShuts_fc
theorem portShuts_fc (ln lt : List UInt8) (ib : UInt8) : FC Tryd.prog GA 17 [.rob ln, .rob lt, .u8 ib] (.bool true) none := by
  refine fi_ 173 [6] ti_eq gpA Tryd.func17 (fun C hE hm hP hrc hrn => ?_)
  have t1 : List.take (min (ln.length : Int) 60).toNat ln = ln.take 60 := tkI_min ln 60
  have t2 : List.take (min (lt.length : Int) 60).toNat lt = lt.take 60 := tkI_min lt 60
  have n1 : (ln.take 60).length ≤ 60 := by rw [List.length_take]; omega
  have n2 : (lt.take 60).length ≤ 60 := by rw [List.length_take]; omega
  have t3 : min (min (ln.length : Int) 60).toNat ln.length = (ln.take 60).length := by rw [List.length_take]; omega
  generalize ln.take 60 = x at *
  generalize lt.take 60 = st at *
  have t4 : List.take (1 + x.length) (List.drop 0 (List.take 1 [1] ++ x)) = 1 :: x := by
    rw [List.drop_zero, List.take_of_length_le (by simp; omega)]
    rfl
  have nf := (pnew_fc [115] 1 5 (by decide) (by decide) (by decide)).any (G := GA)
  refine vs ?_
  refine R_ hE ?_
  refine sq_n ?_
  refine vs ?_
  refine A_ ?_
  rw [t1, t2, t3]
  refine wv_ (sgb_ 0 26 (l' := 1 :: x) (hl := by exact t4)) ?_
  have n4 : 1 ≤ (1 :: x).length ∧ (1 :: x).length ≤ 61 := by simp only [List.length_cons]; omega
  generalize 1 :: x = nm at *
  clear t1 t2 t3 t4 n1
  first | refine O_ ?_ | refine OD_ hm ?_
  refine G_ 2 hE ?_
  refine rg_w (sgb_ 40 39) ?_
  refine G_ 1 hE ?_
  refine rc_ hE hP (nf) Tryd.func52 ?_
  refine G_ 200 hE ?_
  first | refine rz ?_ | refine ZD_ ?_
  refine A_ ?_
  first | refine O_ ?_ | refine OD_ hm ?_
  refine rc_ hE hP (ports_fc) Tryd.func53 ?_
  refine G_ 2 hE ?_
  refine GT_ hE (rfl) ?_
  refine GT_ hE (rfl) ?_
  refine G_ 200 hE ?_
  first | refine rz ?_ | refine ZD_ ?_
  refine A_ ?_
  refine vl (fun a : Nat × Int × Int × List UInt8 × List UInt8 × List UInt8 => ⟨[(0, .rob nm), (1, .rob st), (2, .u8 ib), (7, .ptr 42 1 0), (9, .int .i64 a.1)], [(42, ⟨⟨1, 1, 124⟩, some (.cells (portC [115] 1 5 a.2.1 0 a.1 a.2.2.2.1 a.2.2.2.2.1 [] false a.2.2.2.2.2 a.2.2.1 0))⟩)], []⟩) (fun a => a.1 ≤ 3 ∧ ¬ (a.2.1 = 1 ∨ a.2.1 = 2)) (fun a => 3 - a.1) (0, 0, 0, z16, [], []) ?_ (by decide) ?_
  · exact wk_ hrc
  rintro ⟨k, s0, tr, au, nm0, sd⟩ ⟨hk, hs0⟩
  simp only at hk hs0 ⊢
  by_cases hk3 : k < 3
  · have sf := (pstart_fc [115] 1 5 s0 0 k au nm0 [] false sd tr 0 hs0).any (G := GA)
    have q1 : 0 ≤ (k : Int) % (nm.length : Int) := Int.emod_nonneg _ (by omega)
    have q2 : (k : Int) % (nm.length : Int) < (nm.length : Int) := Int.emod_lt_of_pos _ (by omega)
    obtain ⟨d, hd⟩ : ∃ d, List.take (1 + (k : Int) % (nm.length : Int)).toNat nm = d := ⟨_, rfl⟩
    have n5 : 1 ≤ d.length ∧ d.length ≤ 61 := by rw [← hd, List.length_take]; omega
    have z1 : szE 2 0 1 d.length = 5 + d.length := szE_two (.inr rfl) (by omega) (by omega) (by omega)
    obtain ⟨B1, b1w, b1r, b1l⟩ := wr_ok (d := d) (by rw [z1]; omega)
    rw [z1] at b1l
    have hi : 0 ≤ (ib.toNat : Int) ∧ (ib.toNat : Int) ≤ 255 := by have := ib.toNat_lt; omega
    obtain ⟨i, hib⟩ : ∃ i, (ib.toNat : Int) = i := ⟨_, rfl⟩
    rw [hib] at hi
    have z4 : szE 4 i 0 ([] : List UInt8).length = 4 := szE_end (.inr rfl) hi
    obtain ⟨B4, b4w, b4r, b4l⟩ := wr_ok (d := []) (by rw [z4]; omega)
    rw [z4] at b4l
    obtain ⟨o1, s1, l1, p1⟩ := shut_ask k d B1 n5.2 (by omega)
    obtain ⟨o2, A2, s2, l2, p2⟩ := shut_ans ((k : Int) % 256) (auP k) st B4 (by omega) n2 (by omega)
    have k1 := (packet_fc 2 0 1 d (by omega)).any (G := GA)
    have k4 := (packet_fc 4 i 0 [] (by decide)).any (G := GA)
    rw [b1w] at k1
    rw [b4w] at k4
    have hm1 : nmP [] 1 d = d := if_pos ⟨rfl, rfl, by omega⟩
    have ff := pfrom_fc [115] 1 5 0 k au [] [] false whoP 1 0 B1 1 d o1 (by omega) (by decide) (by omega) b1r (by rw [hm1]; exact s1) (by omega)
    rw [hm1] at ff
    have hL1 := atsL_len d [] false B1 (by omega)
    have hv1 := ats_v d [] false B1 (by omega) (by decide)
    have hn1 : fnd 1 (atsL d [] false B1) = (d, true) := fnd_1 (by omega)
    have ht1 : fnd 24 (atsL d [] false B1) = ([], false) := fnd_n24
    generalize atsL d [] false B1 = L1 at *
    have fd1 := (find_fc L1 1 (by omega) hv1).any (G := GA)
    have fd2 := (find_fc L1 24 (by omega) hv1).any (G := GA)
    rw [hn1] at fd1
    rw [ht1] at fd2
    have of1 := (open2_fc o1 [115] 1 ((k : Int) % 256) (auP k) L1 0 (by omega) (by decide) p1).more GO_A
    have spf := (split_fc B4 (by omega)).any (G := GA)
    have hPl : (spL B4 (List.range (pcN B4.length 253))).length ≤ 10 := by rw [spL_len, List.length_range]; unfold pcN; omega
    have hj2 : joA (spL B4 (List.range (pcN B4.length 253)) ++ [(24, st)]) = B4 := by rw [joA_app, joI_split, joA_24, List.append_nil]
    generalize spL B4 (List.range (pcN B4.length 253)) = P at *
    have rf := (replyJ_fc 3 ((k : Int) % 256) z16 (auP k) P st [115] (by omega) (by decide)).more GO_A
    rw [s2] at rf
    simp only [z16_gb] at rf
    have sv := (pserver_shut [115] 1 5 0 ((k : Int) + 1) (auP k) d [] false o1 1 0 o2 A2 (P ++ [(24, st)]) i (by omega) (by decide) (by omega) (by rw [List.length_append]; simp only [List.length_cons, List.length_nil]; omega) (by rw [hj2]; omega) (by rw [show (k : Int) + 1 - 1 = (k : Int) by omega]; exact p2) (by rw [hj2]; exact b4r)).more GO_A
    rw [hj2] at sv
    have kn := (keys_no [115] 1 5 4 0 ((k : Int) + 1) (auP k) d [] false B4 1 0 (by decide)).any (G := GA)
    have tf := (pstate_fc [115] 1 5 4 0 ((k : Int) + 1) (auP k) d [] false B4 1 0).any (G := GA)
    refine A_ ?_
    refine C_ hE (fun hc => ?_) (fun hc => ?_) <;> (try (exfalso; omega))
    refine A_ ?_
    first | refine O_ ?_ | refine OD_ hm ?_
    refine G_ 1 hE ?_
    refine rc_ hE hP (sf) Tryd.func54 ?_
    refine G_ 200 hE ?_
    first | refine rz ?_ | refine ZD_ ?_
    refine A_ ?_
    first | refine O_ ?_ | refine OD_ hm ?_
    refine G_ 9 hE ?_
    rw [hd]
    refine rc_ hE hP (k1) Tryd.func58 ?_
    refine rg_w (sgb_ 70 70) ?_
    refine rc_ hE hP (ff) Tryd.func57 ?_
    refine G_ 200 hE ?_
    first | refine rz ?_ | refine ZD_ ?_
    refine A_ ?_
    refine wv_ (sgb_ 12 71) ?_
    first | refine O_ ?_ | refine OD_ hm ?_
    refine G_ 3 hE ?_
    refine rg_w (sgb_ 77 76) ?_
    refine rc_ hE hP (of1) Tryd.func39 ?_ (hm := by exact ma2_) (hnr := by exact nrt2_) (had := by exact adt2_)
    refine G_ 200 hE ?_
    first | refine rz ?_ | refine ZD_ ?_
    refine A_ ?_
    first | refine O_ ?_ | refine OD_ hm ?_
    refine G_ 2 hE ?_
    refine rc_ hE hP (fd1) Tryd.func47 ?_ (hm := by exact ma2_) (hnr := by exact nrt2_) (had := by exact adt2_)
    refine G_ 200 hE ?_
    first | refine rz ?_ | refine ZD_ ?_
    refine A_ ?_
    first | refine O_ ?_ | refine OD_ hm ?_
    refine G_ 2 hE ?_
    refine rc_ hE hP (fd2) Tryd.func47 ?_ (hm := by exact ma2_) (hnr := by exact nrt2_) (had := by exact adt2_)
    refine G_ 200 hE ?_
    first | refine rz ?_ | refine ZD_ ?_
    refine A_ ?_
    rw [hd, decide_eq_true (show (whoP.length : Int) = 5 from rfl), decide_eq_true (Eq.refl d)]
    refine A_ ?_
    first | refine O_ ?_ | refine OD_ hm ?_
    refine G_ 4 hE ?_
    rw [hib]
    refine rc_ hE hP (k4) Tryd.func58 ?_
    refine rc_ hE hP (spf) Tryd.func46 ?_ (hm := by exact ma2_) (hnr := by exact nrt2_) (had := by exact adt2_)
    refine G_ 3 hE ?_
    refine AO_ hE ?_
    refine G_ 1 hE ?_
    refine G_ 4 hE ?_
    refine rco_ hE hP (rf) Tryd.func20 ?_ (hm := by exact ma5_)
    refine G_ 200 hE ?_
    first | refine rz ?_ | refine ZD_ ?_
    refine A_ ?_
    refine wv_ (sgb_ 20 140) ?_
    first | refine O_ ?_ | refine OD_ hm ?_
    refine G_ 2 hE ?_
    refine rc_ hE hP (sv) Tryd.func59 ?_
    refine G_ 200 hE ?_
    first | refine rz ?_ | refine ZD_ ?_
    refine A_ ?_
    first | refine O_ ?_ | refine OD_ hm ?_
    refine G_ 1 hE ?_
    refine rc_ hE hP (kn) Tryd.func61 ?_
    refine G_ 200 hE ?_
    first | refine rz ?_ | refine ZD_ ?_
    refine A_ ?_
    first | refine O_ ?_ | refine OD_ hm ?_
    refine G_ 3 hE ?_
    refine GT_ hE (rfl) ?_
    refine GT_ hE (rfl) ?_
    refine GT_ hE (rfl) ?_
    refine GT_ hE (rfl) ?_
    rw [hib]
    refine rct_ hE hP (k4) Tryd.func58 (rfl) ?_
    refine GT_ hE (rfl) ?_
    refine GT_ hE (rfl) ?_
    refine G_ 2 hE ?_
    refine GT_ hE (rfl) ?_
    refine G_ 2 hE ?_
    refine GT_ hE (rfl) ?_
    refine rct_ hE hP (tf) Tryd.func56 (rfl) ?_
    refine GT_ hE (rfl) ?_
    refine G_ 200 hE ?_
    first | refine rz ?_ | refine ZD_ ?_
    refine A_ ?_
    refine lq_n (k + 1, 4, 1, auP k, d, B4) ?_ ⟨by simp only; omega, by simp only; omega⟩ (by simp only; omega)
    simp only
    exact wk_ hrc
  · obtain rfl : k = 3 := by omega
    refine A_ ?_
    exact ret_
end Go.Proofs.YtocfhkmdkdjinaaDoor
