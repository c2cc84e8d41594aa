/- What the claim leans on, text Zri: Spk, Tam, ArgP, Frz. No condition beyond what each lemma states. -/
import Derived.Test.YtocfhkmdkdjinaaDoorZd
import Derived.Test.YtocfhkmdkdjinaaDoorZt
import Derived.Test.YtocfhkmdkdjinaaDoorZre
import Derived.Test.YtocfhkmdkdjinaaDoorZrh
import Derived.Test.YtocfhkmdkdjinaaDoorZrf
import Derived.Test.YtocfhkmdkdjinaaDoorZra
import Derived.Test.YtocfhkmdkdjinaaDoorZrd

/- The laws of layer 19: speaks. Printed by wp.py. -/
namespace Go.Proofs.YtocfhkmdkdjinaaDoor
open Go Go.RowKit
set_option linter.unusedVariables false
set_option linter.unusedSimpArgs false
set_option maxRecDepth 100000
set_option maxHeartbeats 4000000
attribute [local irreducible] inR VC RG VCn sq inS lq nq jq Wk
theorem z16_gb (i : Nat) : gb z16 i = 0 := by
  unfold z16 gb
  rw [List.getD_eq_getElem?_getD, List.getElem?_replicate]
  split <;> rfl
theorem spk_w : wrO 1 1 [(1, [97])] = true := by decide
theorem spk_w2 : wrO 1 1 ([(1, [97])] ++ [(80, z16)]) = true := by decide
theorem spk_i : ¬ 0 ≤ idxM [(1, [97])] := by decide
theorem spk_B : ∃ B : List UInt8, wrV 1 1 (q16 z16) [(1, [97])] = (B, 0) ∧ B.length = 23 ∧ gb B 22 = 97 ∧ gb B 3 = 23 := ⟨wrS 1 1 (q16 z16) [(1, [97])], wrV_yes spk_w, by decide, by decide, by decide⟩
theorem spk_C : ∃ B : List UInt8, slV 1 1 (q16 z16) [(1, [97])] [115] = (B, 0) ∧ B.length = 41 ∧ opnP B [115] = (1, 1, q16 z16, [(1, [97])], 0) := by
  refine ⟨wrS 1 1 (q16 z16) (seL 1 1 (q16 z16) [(1, [97])] [115]), ?_, ?_, opn_seal 1 (q16 z16) [(1, [97])] [115] (q16_len _) (by decide) spk_w2⟩
  · rw [slV_yes rfl spk_i, seV_yes spk_w2]
  · unfold seL
    rw [wrS_len, q16_len, bodyA_snoc _ _ (hmM_len _ _)]
    simp only [List.length_append, hmM_len]
    rfl
theorem spk_at : [D.int .i64 1, D.rob [97]] = atR [(1, [97])] := rfl
theorem spk_sc : D.rob [115] = D.rob [115] := rfl
attribute [local irreducible] bodyA wrS wrO idxF idxM z16 seV slV rpV rdO rdS prs rdP prC wrV seL cutI opA ofP opnP opdP opdS md

namespace Uspeaks_fc
theorem U : type_of% (@drop_rep UInt8) ∧ type_of% (@drop_rep D) ∧ type_of% (@List.take_zero UInt8) ∧ type_of% (@List.take_zero D) ∧ type_of% @q16_take ∧ type_of% @q16_len ∧ type_of% @q16_fold ∧ type_of% @q16_map ∧ type_of% @decL ∧ type_of% @decI ∧ type_of% @atS_len ∧ type_of% @md_len ∧ type_of% @md_take ∧ type_of% @hmM_len ∧ type_of% @hmM_take ∧ type_of% @atR_len ∧ type_of% @atO_len := ⟨(@drop_rep UInt8), (@drop_rep D), (@List.take_zero UInt8), (@List.take_zero D), @q16_take, @q16_len, @q16_fold, @q16_map, @decL, @decI, @atS_len, @md_len, @md_take, @hmM_len, @hmM_take, @atR_len, @atO_len⟩
end Uspeaks_fc
open Uspeaks_fc
theorem speaks_fc  : FC Tryd.prog GO 33 [] (.bool true) none := by
  refine fi_ 70 [0] ti_eq gpO Tryd.func33 (fun C hE hm hP hrc hrn => ?_)
  obtain ⟨B, hB, hBl, hB22, hB3⟩ := spk_B
  obtain ⟨E, hE1, hEl, hop⟩ := spk_C
  have wf := write_fc 1 1 z16 [(1, [97])]
  have sf := seal_fc 1 1 z16 [(1, [97])] [115] (by simp) (by simp)
  have opf := open2_fc E [115] 1 1 z16 [(1, [97])] 0 (by omega) (by simp) hop
  rw [hB] at wf
  rw [hE1] at sf
  simp only [z16_gb] at wf sf opf
  refine A_ ?_
  refine VC.weak ?_ (kclose 11 1 8 (by exact rfl) (by exact rfl) (by exact rfl) (by exact rfl) (by exact rfl) (by exact rfl) (by exact rfl))
  refine VC.weak ?_ (kfreeze 11 (cs' := atR [(1, [97])]) (by exact rfl) (by exact rfl) (by exact rfl))
  first | refine O_ ?_ | refine OD_ hm ?_
  refine G_ 1 hE ?_
  refine rc_ hE hP (wf.any) Tryd.func31 ?_ (hm := by exact ma2_) (hnr := by exact nrt2_) (had := by exact adt2_)
  refine G_ 200 hE ?_
  first | refine rz ?_ | refine ZD_ ?_
  refine A_ ?_
  first | refine O_ ?_ | refine OD_ hm ?_
  refine G_ 3 hE ?_
  refine rco_ hE hP (sf) Tryd.func38 ?_
  refine G_ 200 hE ?_
  first | refine rz ?_ | refine ZD_ ?_
  refine A_ ?_
  refine wv_ (sgb_ 4 22) ?_
  first | refine O_ ?_ | refine OD_ hm ?_
  refine G_ 3 hE ?_
  refine rg_w (sgb_ 28 27) ?_
  refine rc_ hE hP (opf) Tryd.func39 ?_ (hm := by exact ma2_) (hnr := by exact nrt2_) (had := by exact adt2_)
  refine G_ 200 hE ?_
  first | refine rz ?_ | refine ZD_ ?_

  refine A_ ?_
  exact ret_ (h := by (first | exact Mat.tnil | apply mat1 rfl | apply mat2 rfl rfl | apply mat3 rfl rfl rfl) <;> (repeat' (first | exact .tnil | exact mat_eq rfl rfl | apply mat_i | apply mat_bl | apply mat_u8 | apply mat_u32 | apply mat_st | apply mat_ab | apply mat_rbe | apply mat_nrb | apply mat_nob | exact mat_nos rfl rfl | exact mat_rf0 rfl | exact mat_trob | (apply mat_rf rfl rfl rfl) | refine mat_slf (e := 1) rfl rfl rfl rfl ?_ ?_ ?_ (by first | exact fr0_rob _ | exact fr0_str _ | exact fr0_str _) | (apply mat_sls rfl rfl rfl rfl rfl rfl) | exact mat_pf rfl rfl rfl rfl rfl | (apply mat_s0 rfl rfl rfl; (· first | rfl | (simp <;> fail) | (simp; omega) | omega)) | (apply mat_r0 rfl rfl rfl; (· first | rfl | (simp <;> fail) | (simp; omega) | omega)) | apply mat_sl rfl rfl rfl | apply mat_rb rfl rfl rfl | apply mat_p rfl rfl rfl rfl | apply mc)) <;> (first | rfl | assumption | (simp only [Z, U, Int.cast_ofNat_Int, UInt8.reduceToNat, UInt32.reduceToNat, Nat.reduceAdd, Nat.reduceMul, Nat.reduceSub, Nat.reduceLeDiff, Int.reduceToNat, Int.reducePow, Nat.reducePow] <;> fail) | (simp <;> fail) | omega | (simp [List.take_of_length_le] <;> fail) | (simp [hBl, hB22, hB3, hEl])))
end Go.Proofs.YtocfhkmdkdjinaaDoor

/- The laws of layer 19: tame. Printed by wp.py. -/
namespace Go.Proofs.YtocfhkmdkdjinaaDoor
open Go Go.RowKit
set_option linter.unusedVariables false
set_option linter.unusedSimpArgs false
set_option maxRecDepth 100000
set_option maxHeartbeats 4000000
attribute [local irreducible] inR VC RG VCn sq inS lq nq jq Wk
attribute [local simp] nmL_atS atS_fr atS_nil
/-- No more than 20 attributes of 260 bytes. -/
def tmL (L : List (Int × List UInt8)) : List (Int × List UInt8) := (L.take 20).map fun a => (a.1, a.2.take 260)
theorem tmL_len (L : List (Int × List UInt8)) : (tmL L).length = min 20 L.length := by unfold tmL; rw [List.length_map, List.length_take]
theorem tmL_b {L : List (Int × List UInt8)} : ∀ a ∈ tmL L, a.2.length ≤ 260 := by
  intro a ha
  obtain ⟨b, -, rfl⟩ := List.mem_map.1 ha
  simp only [List.length_take]
  omega
theorem tmL_idem {L : List (Int × List UInt8)} (h : L.length ≤ 20) (hb : ∀ a ∈ L, a.2.length ≤ 260) : tmL L = L := by
  unfold tmL
  rw [List.take_of_length_le h]
  conv => rhs; rw [← List.map_id L]
  exact List.map_congr_left fun a ha => by rw [List.take_of_length_le (hb a ha)]; rfl
/-- The first k of them. -/
def tmK (L : List (Int × List UInt8)) (k : Nat) : List (Int × List UInt8) := (L.take k).map fun a => (a.1, a.2.take 260)
theorem tmK_0 (L : List (Int × List UInt8)) : tmK L 0 = [] := rfl
theorem tmK_len (L : List (Int × List UInt8)) {k : Nat} (h : k ≤ L.length) : (tmK L k).length = k := by unfold tmK; rw [List.length_map, List.length_take]; omega
theorem tmK_s (L : List (Int × List UInt8)) {k : Nat} (h : k < L.length) : tmK L k ++ [((L.getD k (0, [])).1, (L.getD k (0, [])).2.take 260)] = tmK L (k + 1) := by
  unfold tmK
  rw [List.take_succ_eq_append_getElem h, List.map_append, getD_at L h]
  rfl
theorem tmK_end (L : List (Int × List UInt8)) {k : Nat} (h : k = L.length ∨ k = 20) (h2 : k ≤ 20) : tmK L k = tmL L := by
  unfold tmK tmL
  rcases h with rfl | rfl
  · rw [List.take_length, List.take_of_length_le h2]
  · rfl
theorem tm_take (v : List UInt8) : List.take (min (v.length : Int) 260).toNat v = v.take 260 := by
  rcases Nat.lt_or_ge 260 v.length with h | h
  · rw [show (min (v.length : Int) 260).toNat = 260 by omega]
  · rw [List.take_of_length_le (by omega), List.take_of_length_le h]
attribute [local irreducible] tmK tmL

namespace Utame_fc
theorem U : type_of% (@drop_rep UInt8) ∧ type_of% (@drop_rep D) ∧ type_of% (@List.take_zero UInt8) ∧ type_of% (@List.take_zero D) ∧ type_of% @q16_take ∧ type_of% @q16_len ∧ type_of% @q16_fold ∧ type_of% @q16_map ∧ type_of% @decL ∧ type_of% @decI ∧ type_of% @atS_len := ⟨(@drop_rep UInt8), (@drop_rep D), (@List.take_zero UInt8), (@List.take_zero D), @q16_take, @q16_len, @q16_fold, @q16_map, @decL, @decI, @atS_len⟩
end Utame_fc
open Utame_fc
theorem tame_fc (c i : Int) (au : List UInt8) (L : List (Int × List UInt8)) : FC Tryd.prog GE 29 [.agg [.int .i64 c, .int .i64 i, .u8 (gb au 0), .u8 (gb au 1), .u8 (gb au 2), .u8 (gb au 3), .u8 (gb au 4), .u8 (gb au 5), .u8 (gb au 6), .u8 (gb au 7), .u8 (gb au 8), .u8 (gb au 9), .u8 (gb au 10), .u8 (gb au 11), .u8 (gb au 12), .u8 (gb au 13), .u8 (gb au 14), .u8 (gb au 15), .rof 2 L.length (fS L)]] (.agg [.int .i64 c, .int .i64 i, .u8 (gb au 0), .u8 (gb au 1), .u8 (gb au 2), .u8 (gb au 3), .u8 (gb au 4), .u8 (gb au 5), .u8 (gb au 6), .u8 (gb au 7), .u8 (gb au 8), .u8 (gb au 9), .u8 (gb au 10), .u8 (gb au 11), .u8 (gb au 12), .u8 (gb au 13), .u8 (gb au 14), .u8 (gb au 15), .owns 2 (tmL L).length (atS (tmL L))]) none := by
  refine fic_ 44 ti_eq gpE Tryd.func29 (fun C hE hm hP hrc hrn => ?_)
  refine A_ ?_
  refine VC.weak ?_ (kniln 3 960 2 (g := 1) (c := .cells []) rfl rfl rfl)
  refine vl (fun k : Nat => ⟨[(1, .ptr 1 1 0), (2, .ptr 2 1 0), (3, .sl 960 (1 + k) 0 k), (4, .int .i64 k)], [(960, ⟨⟨1 + k, 2, k * 2⟩, some (.cells (atS (tmK L k)))⟩), (1, ⟨⟨1, 1, 19⟩, some (.cells [.int .i64 c, .int .i64 i, .u8 (gb au 0), .u8 (gb au 1), .u8 (gb au 2), .u8 (gb au 3), .u8 (gb au 4), .u8 (gb au 5), .u8 (gb au 6), .u8 (gb au 7), .u8 (gb au 8), .u8 (gb au 9), .u8 (gb au 10), .u8 (gb au 11), .u8 (gb au 12), .u8 (gb au 13), .u8 (gb au 14), .u8 (gb au 15), .rof 2 L.length (fS L)])⟩), (2, ⟨⟨1, 1, 19⟩, some (.cells [.int .i64 0, .int .i64 0, .u8 0, .u8 0, .u8 0, .u8 0, .u8 0, .u8 0, .u8 0, .u8 0, .u8 0, .u8 0, .u8 0, .u8 0, .u8 0, .u8 0, .u8 0, .u8 0, .nilS])⟩)], []⟩) (fun k => k ≤ L.length ∧ k ≤ 20) (fun k => 20 - k) 0 ?_ ⟨Nat.zero_le _, by omega⟩ ?_
  · rw [tmK_0]
    exact wk_ hrc
  rintro k ⟨hk, hk20⟩
  have hsl := tmK_len L hk
  by_cases hkl : k < L.length
  · by_cases hk2 : k < 20
    · have hs := tmK_s L hkl
      obtain ⟨a, ha⟩ : ∃ a, a = L.getD k (0, []) := ⟨_, rfl⟩
      have hf0 : fS L k 0 = .int .i64 a.1 := by rw [ha]; rfl
      have hf1 : fS L k 1 = .str a.2 := by rw [ha]; rfl
      rw [← ha] at hs
      refine A_ ?_
      refine C_ hE (fun hc => ?_) (fun hc => ?_) <;> (try (exfalso; omega))
      refine A_ ?_
      first | refine O_ ?_ | refine OD_ hm ?_
      refine G_ 22 hE ?_
      rw [← ha]
      rw [tm_take]
      refine G_ 2 hE ?_
      refine AO_ hE ?_
      refine G_ 200 hE ?_
      first | refine rz ?_ | refine ZD_ ?_
      refine A_ ?_
      rw [atS_snoc, hs]
      refine lq_n (k + 1) ?_ (by omega) (by omega)
      rw [hsl, show k * 2 + 2 = (k + 1) * 2 by omega, show 1 + k + 1 = 1 + (k + 1) by omega]
      exact wk_ hrc
    · rw [tmK_end L (.inr (by omega)) hk20] at hsl ⊢
      subst hsl
      refine A_ ?_
      refine C_ hE (fun hc => ?_) (fun hc => ?_) <;> (try (exfalso; omega))
      refine A_ ?_
      exact retc_ (h := by exact ma3_)
  · rw [tmK_end L (.inl (by omega)) hk20] at hsl ⊢
    subst hsl
    refine A_ ?_
    refine C_ hE (fun hc => ?_) (fun hc => ?_) <;> (try (exfalso; omega))
    refine A_ ?_
    exact retc_ (h := by exact ma3_)
end Go.Proofs.YtocfhkmdkdjinaaDoor

/- What a law's arguments read as: slices of pairs of a number and a string. Over any program. -/
namespace Go.Proofs.YtocfhkmdkdjinaaDoor
open Go Go.RowKit Go.ChangeShapes Go.WideShapes
set_option linter.unusedVariables false
set_option linter.unusedSimpArgs false
section
variable {P : Program} {H : Type} {enc : TypeId × Value → H} {W : World} {base : Nat} {sp : Nat → Bool} {hd : Bool}
/-- A pair's cells. -/
def gS (a : Int × List UInt8) (j : Nat) : D :=
  match j with
  | 0 => .int .i64 a.1
  | _ => .str a.2
theorem gS_fS (L : List (Int × List UInt8)) : (fun i j => gS (L.getD i (0, [])) j) = fS L := by
  funext i j
  cases j <;> rfl
theorem arg_pairs {T E TI TS : TypeId} {fs : Array Field} (ht : P.underlying T = some (.slice E)) (hE : P.underlying E = some (.struct fs)) (hI : P.underlying TI = some (.int .i64)) (hS : P.underlying TS = some .string)
    (hc : P.cellsOf E = 2) (hcI : P.cellsOf TI = 1) (hcS : P.cellsOf TS = 1) (hf0 : ∃ f, fs[0]? = some f ∧ f.type = TI ∧ f.offset = 0) (hf1 : ∃ f, fs[1]? = some f ∧ f.type = TS ∧ f.offset = 1)
    {A : Option Addr} {n cap : Nat} {d : DataW H} {pl : List MemPlace} (h : DataW.Trod enc P W base sp hd T (.slice A n cap) d pl) :
    ∃ L : List (Int × List UInt8), L.length = n ∧ RV W (AllB W) ρ0 H0 (.rof 2 L.length (fS L)) (.slice A n cap) [] := by
  obtain ⟨L, hl, hr⟩ := arg_rof ht 2 hc (by omega) gS (0, []) (fun a j _ => by cases j <;> rfl) (fun m cs y hcl hy => by
    obtain ⟨xs, k, _, _, hl, hlen, hff⟩ := DataW.trod_struct hE hy
    obtain ⟨f0, g1, g2, g3⟩ := hf0
    obtain ⟨f1, q1, q2, q3⟩ := hf1
    have e0 := hff 0 f0 g1
    have e1 := hff 1 f1 q1
    subst g2 q2
    rw [g3, hcI] at e0
    rw [q3, hcS] at e1
    match cs, hcl with
    | [c0, c1], _ =>
    have h0 : 0 < xs.length := by rw [hlen]; exact (Array.getElem?_eq_some_iff.1 g1).1
    have h1 : 1 < xs.length := by rw [hlen]; exact (Array.getElem?_eq_some_iff.1 q1).1
    rw [List.getElem?_eq_getElem h0] at e0
    rw [List.getElem?_eq_getElem h1] at e1
    obtain ⟨a, ea, -⟩ := DataW.trod_int hI e0
    obtain ⟨b, eb, -⟩ := DataW.trod_string hS e1
    simp only [List.drop_zero, List.take_succ_cons, List.take_zero, List.cons.injEq, and_true] at ea
    simp only [List.drop_succ_cons, List.drop_zero, List.take_succ_cons, List.take_zero, List.cons.injEq, and_true] at eb
    subst ea eb
    refine ⟨(a, b.data.toList), fun j hj => ?_⟩
    rcases j with _ | j
    · exact ⟨_, rfl, .int _ _⟩
    · obtain rfl : j = 0 := by omega
      refine ⟨_, rfl, ?_⟩
      have e : Value.string b = .string (str b.data.toList) := by unfold str; simp
      rw [e]
      exact .str _) h
  rw [gS_fS] at hr
  subst hl
  exact ⟨L, rfl, hr⟩
theorem fld_pairs {T E TI TS : TypeId} {fs : Array Field} {m : Nat} {cs : List Value} {y : DataW H × List MemPlace} (ht : P.underlying T = some (.slice E)) (hE : P.underlying E = some (.struct fs)) (hI : P.underlying TI = some (.int .i64)) (hS : P.underlying TS = some .string)
    (hc : P.cellsOf E = 2) (hcI : P.cellsOf TI = 1) (hcS : P.cellsOf TS = 1) (h : DataW.trod enc P W base sp hd m T cs = some y)
    (hf0 : ∃ f, fs[0]? = some f ∧ f.type = TI ∧ f.offset = 0 := by exact ⟨_, rfl, rfl, rfl⟩) (hf1 : ∃ f, fs[1]? = some f ∧ f.type = TS ∧ f.offset = 1 := by exact ⟨_, rfl, rfl, rfl⟩) : ∃ L : List (Int × List UInt8), Cl W [.rof 2 L.length (fS L)] cs := by
  rcases DataW.trod_slice ht h with ⟨rfl, hx⟩ | ⟨a2, len2, cap2, el2, rest2, m2, _, rfl, hx, _⟩
  · refine ⟨[], .one (.rof 2 0 _ none 0 0 0 (fun _ _ => undef) (Nat.le_refl _) (by simp [maxLen]) (fun i j hi => absurd hi (by omega)) (fun h => absurd h (by omega)) (fun i j hi => absurd hi (by omega)) (fun i j hi => absurd hi (by omega)))⟩
  · have hT : DataW.Trod enc P W base sp hd T (.slice (some a2) len2 cap2) y.1 y.2 := ⟨m, by simpa [Value.cells] using h⟩
    obtain ⟨L, -, hrd⟩ := arg_pairs ht hE hI hS hc hcI hcS hf0 hf1 hT
    exact ⟨L, .one hrd⟩
end
end Go.Proofs.YtocfhkmdkdjinaaDoor

/- A contract that takes rows whose bytes are read only serves for rows that own them too. Over any program. -/
namespace Go.Proofs.YtocfhkmdkdjinaaDoor
open Go Go.RowKit
set_option linter.unusedVariables false
set_option linter.unusedSimpArgs false
section
variable {w : World} {S : Nat → Prop} {ρ : Nat → Pl} {H : Nat → Sh}
theorem fz_owns {s n : Nat} {cs : List D} {v : Value} {F : List Nat} (hc : cs.all D.fr0 = true) (h : RV w S ρ H (.owns s n cs) v F) (hn : F.Nodup) :
    ∃ F', (∀ b ∈ F', b ∈ F) ∧ F'.Nodup ∧ RV w (fun b => S b ∨ (b ∈ F ∧ b ∉ F')) ρ H (.owns s n (cs.map frz)) v F' := by
  cases h with
  | owns _ _ _ A cap _ F0 Fs cur off hl hrow hf hF hr =>
    subst hF
    have hn' := List.nodup_append.1 hn
    refine ⟨F0, fun b hb => List.mem_append_left _ hb, hn'.1, .owns s n _ A cap F0 F0 (Fs.map fun _ => []) cur off (by simpa using hl) hrow (by simpa using hf) (by simp) (fun i c u f p1 p2 p3 => ?_)⟩
    rw [List.getElem?_map] at p1 p3
    obtain ⟨d, hd, rfl⟩ := Option.map_eq_some_iff.1 p1
    obtain ⟨Fi, hFi, rfl⟩ := Option.map_eq_some_iff.1 p3
    have hrv := hr i d u Fi hd p2 hFi
    have hfd : d.fr0 = true := all_get hc hd
    have hm : ∀ {d v F}, RV w S ρ H d v F → RV w (fun b => S b ∨ (b ∈ F0 ++ Fs.flatten ∧ b ∉ F0)) ρ H d v F := fun hr => hr.mono (fun _ h => .inl h) (fun _ _ => rfl) (fun _ => ⟨Nat.le_refl _, fun _ => ⟨rfl, rfl⟩⟩) (fun _ _ => rfl)
    cases d with
    | ownb l => exact rob_of_ownb hrv fun b hb => .inr ⟨List.mem_append_right _ (mem_flat_of hFi hb), fun h0 => hn'.2.2 b h0 b (mem_flat_of hFi hb) rfl⟩
    | _ => exact hm (pf1_nv (by exact hfd) hrv).2
theorem flat_pre {α : Type} : ∀ (Fs : List (List α)) (n : Nat), Fs.length = n + 1 → (∀ i, i < n → Fs[i]? = some []) → ∃ F, Fs[n]? = some F ∧ Fs.flatten = F
  | F :: Fs, 0, hl, _ => ⟨F, rfl, by
    have : Fs = [] := List.eq_nil_of_length_eq_zero (by simpa using hl)
    subst this
    simp⟩
  | F :: Fs, n + 1, hl, h => by
    have h0 := h 0 (by omega)
    simp only [List.getElem?_cons_zero, Option.some.injEq] at h0
    subst h0
    obtain ⟨F, h1, h2⟩ := flat_pre Fs n (by simpa using hl) (fun i hi => by have := h (i + 1) (by omega); simpa using this)
    exact ⟨F, by simpa using h1, by simpa using h2⟩
theorem fz_agg {pre : List D} {s n : Nat} {cs : List D} {v : Value} {F : List Nat} (hp : pre.all D.pf1 = true) (hc : cs.all D.fr0 = true) (h : RV w S ρ H (.agg (pre ++ [.owns s n cs])) v F) (hn : F.Nodup) :
    ∃ F', (∀ b ∈ F', b ∈ F) ∧ F'.Nodup ∧ RV w (fun b => S b ∨ (b ∈ F ∧ b ∉ F')) ρ H (.agg (pre ++ [.owns s n (cs.map frz)])) v F' := by
  cases h with
  | agg _ vs Fs _ hv hf hF hr =>
    simp only [List.length_append, List.length_singleton] at hv hf
    have hpre : ∀ (i : Nat) (c : D) (u : Value) (f : List Nat), i < pre.length → pre[i]? = some c → vs[i]? = some u → Fs[i]? = some f → f = [] ∧ RV w S ρ H c u [] := fun i c u f hi h1 h2 h3 => by
      have := hr i c u f (by rw [List.getElem?_append_left hi]; exact h1) h2 h3
      exact pf1_nv (all_get hp h1) this
    obtain ⟨Fl, hFl, hfl⟩ := flat_pre Fs pre.length hf (fun i hi => by
      have h3 : Fs[i]? = some Fs[i] := List.getElem?_eq_getElem (by omega)
      rw [h3, (hpre i _ _ _ hi (List.getElem?_eq_getElem hi) (List.getElem?_eq_getElem (by omega)) h3).1])
    rw [hF, hfl] at hn ⊢
    have hlast := hr pre.length (.owns s n cs) (vs[pre.length]'(by omega)) Fl (by simp) (List.getElem?_eq_getElem (by omega)) hFl
    obtain ⟨F', q1, q2, q3⟩ := fz_owns hc hlast hn
    refine ⟨F', q1, q2, .agg _ vs (List.replicate pre.length [] ++ [F']) F' (by simpa using hv) (by simp) (by simp) (fun i c u f h1 h2 h3 => ?_)⟩
    by_cases hi : i < pre.length
    · rw [List.getElem?_append_left hi] at h1
      rw [List.getElem?_append_left (by simpa using hi), List.getElem?_replicate, if_pos hi] at h3
      injection h3 with h3
      subst h3
      exact (hpre i c u _ hi h1 h2 (List.getElem?_eq_getElem (by omega))).2.mono (fun _ h => .inl h) (fun _ _ => rfl) (fun _ => ⟨Nat.le_refl _, fun _ => ⟨rfl, rfl⟩⟩) (fun _ _ => rfl)
    · have hi2 : i = pre.length := by
        have := (List.getElem?_eq_some_iff.1 h1).1
        simp at this
        omega
      subst hi2
      simp at h1 h3
      subst h1; subst h3
      rw [List.getElem?_eq_getElem (by omega)] at h2
      injection h2 with h2
      subst h2
      exact q3
end
/-- Taken as if its rows' bytes were read only. -/
theorem FC.frzA {P : Program} {G : Nat → Option D} {f : Nat} {pre : List D} {s n : Nat} {cs : List D} {ds : List D} {res : D} (hp : pre.all D.pf1 = true) (hc : cs.all D.fr0 = true) (h : FC P G f (.agg (pre ++ [.owns s n (cs.map frz)]) :: ds) res none) : FC P G f (.agg (pre ++ [.owns s n cs]) :: ds) res none := by
  intro w S vs Fs hS hG hl hf hrv hnd hdis
  match vs, Fs, hl, hf with
  | v0 :: vr, F0 :: Fr, hl, hf =>
  have h0 := hrv 0 _ v0 F0 rfl rfl rfl
  rw [List.flatten_cons] at hnd hdis
  have hn := List.nodup_append.1 hnd
  obtain ⟨F', q1, q2, q3⟩ := fz_agg hp hc h0 hn.1
  have hrows := h0.rows
  have hm : ∀ {d v F}, NV w S d v F → NV w (fun b => S b ∨ (b ∈ F0 ∧ b ∉ F')) d v F := fun {d v F} hr => (show RV w S ρ0 H0 d v F from hr).mono (fun _ h => .inl h) (fun _ _ => rfl) (fun _ => ⟨Nat.le_refl _, fun _ => ⟨rfl, rfl⟩⟩) (fun _ _ => rfl)
  refine (h w (fun b => S b ∨ (b ∈ F0 ∧ b ∉ F')) (v0 :: vr) (F' :: Fr) (fun b hb => ?_) (fun g c hg => hm (hG g c hg)) (by simpa using hl) (by simpa using hf) (fun i d v F p1 p2 p3 => ?_) ?_ ?_).mono ?_
  · rcases hb with hb | hb
    · exact hS b hb
    · exact hrows b hb.1
  · rcases i with _ | i
    · simp at p1 p2 p3
      subst p1; subst p2; subst p3
      exact q3
    · exact hm (hrv (i + 1) d v F (by simpa using p1) (by simpa using p2) (by simpa using p3))
  · rw [List.flatten_cons]
    exact List.nodup_append.2 ⟨q2, hn.2.1, fun a ha b hb => hn.2.2 a (q1 a ha) b hb⟩
  · intro b hb
    rw [List.flatten_cons] at hb
    rcases List.mem_append.1 hb with hb | hb
    · have h1 := hdis b (List.mem_append_left _ (q1 b hb))
      exact ⟨fun h => by rcases h with h | h; exact h1.1 h; exact h.2 hb, h1.2⟩
    · have h1 := hdis b (List.mem_append_right _ hb)
      exact ⟨fun h => by rcases h with h | h; exact h1.1 h; exact hn.2.2 b h.1 b hb rfl, h1.2⟩
  · rintro e w' ⟨v, F, Fo, S', r1, r2, r3, r4, r5, r6, r7, r8, r9, r10, r11, r12, r13, r14⟩
    have hsub : ∀ b, b ∈ F' ++ Fr.flatten → b ∈ F0 ++ Fr.flatten := fun b hb => by
      rcases List.mem_append.1 hb with hb | hb
      · exact List.mem_append_left _ (q1 b hb)
      · exact List.mem_append_right _ hb
    refine ⟨v, F, Fo, S', r1, r2, r3, r4, r5, r6, fun b hb hnb => r7 b hb (fun h => hnb ?_), fun b hb => r8 b (.inl hb), fun b hb => ?_, r10, r11, r12, r13, fun b hb => ?_⟩
    · rw [List.flatten_cons] at h ⊢; exact hsub b h
    · obtain ⟨t1, t2⟩ := r9 b hb
      refine ⟨t1, ?_⟩
      rw [List.flatten_cons] at t2 ⊢
      rcases t2 with (t2 | t2) | t2 | t2
      · exact .inl t2
      · exact .inr (.inr (List.mem_append_left _ t2.1))
      · exact .inr (.inl t2)
      · exact .inr (.inr (hsub b t2))
    · obtain ⟨t1, t2, t3⟩ := r14 b hb
      refine ⟨t1, t2, ?_⟩
      rw [List.flatten_cons] at t3 ⊢
      rcases t3 with t3 | t3
      · exact .inl t3
      · exact .inr (hsub b t3)
/-- A packet's arguments, its rows handed over. -/
theorem ma4_ {s : St} {d d2 : D} {own fro : List Nat} (h : Mat s d d2 own fro := by (repeat' (first | exact .tnil | apply mcf rfl | exact mat_eq rfl rfl | apply Mat.agg | exact mat_n2 | exact mat_r2 rfl rfl rfl rfl | exact mat_s2 rfl rfl rfl rfl | (apply mat_slf rfl rfl rfl rfl <;> first | rfl | exact atR_len _ | exact atO_len _ | exact atS_len _ | exact atR_fr _ | exact atO_fr _ | exact atS_fr _ | omega) | apply mat_i | apply mat_bl | apply mat_u8 | apply mat_st | apply mat_ab | apply mat_rbe | apply mat_nrb | (apply mat_r0 rfl rfl rfl <;> first | rfl | (simp <;> fail) | (simp; omega) | omega) | apply mat_rb rfl rfl rfl | apply mc)) <;> first | rfl | assumption | (simp <;> fail) | omega | (simp [List.take_of_length_le] <;> fail)) : Mat s d d2 own fro := h
end Go.Proofs.YtocfhkmdkdjinaaDoor
