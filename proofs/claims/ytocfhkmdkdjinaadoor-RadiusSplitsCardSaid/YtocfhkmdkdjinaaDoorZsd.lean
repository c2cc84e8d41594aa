/- What the claim leans on, text Zsd: Ra11, Ra15, Ra16, Ra17. No condition beyond what each lemma states. -/
import Derived.Test.YtocfhkmdkdjinaaDoorZd
import Derived.Test.YtocfhkmdkdjinaaDoorZt
import Derived.Test.YtocfhkmdkdjinaaDoorZre
import Derived.Test.YtocfhkmdkdjinaaDoorZqh
import Derived.Test.YtocfhkmdkdjinaaDoorZsc

/- radius: Split. Printed by wp.py. -/
namespace Go.Proofs.YtocfhkmdkdjinaaDoor
open Go Go.RowKit
set_option linter.unusedVariables false
set_option linter.unusedSimpArgs false
set_option maxRecDepth 100000
set_option maxHeartbeats 4000000
attribute [local irreducible] inR VC RG VCn sq inS lq nq jq Wk rq
attribute [local simp] nmL_atO atO_fr atO_len
/-- Pieces as attributes of EAP. -/
def spL (l : List UInt8) (ks : List Nat) : List (Int × List UInt8) := ks.map fun k => (79, pc l 253 k)
theorem spL_0 (l : List UInt8) : spL l [] = [] := rfl
theorem spL_s (l : List UInt8) (pre : List Nat) (k : Nat) : spL l (pre ++ [k]) = spL l pre ++ [(79, pc l 253 k)] := by unfold spL; rw [List.map_append]; rfl
theorem spL_len (l : List UInt8) (ks : List Nat) : (spL l ks).length = ks.length := List.length_map _
attribute [local irreducible] spL

namespace Usplit_fc
theorem U : type_of% (@drop_rep UInt8) ∧ type_of% (@drop_rep D) ∧ type_of% (@List.take_zero UInt8) ∧ type_of% (@List.take_zero D) ∧ type_of% @decI ∧ type_of% @atO_len := ⟨(@drop_rep UInt8), (@drop_rep D), (@List.take_zero UInt8), (@List.take_zero D), @decI, @atO_len⟩
end Usplit_fc
open Usplit_fc
theorem split_fc (l : List UInt8) (hl : l.length ≤ 100000) : FC Tryd.prog GE 46 [.rob l] (.owns 2 (spL l (List.range (pcN l.length 253))).length (atO (spL l (List.range (pcN l.length 253))))) none := by
  refine fi_ 15 [2] ti_eq gpE Tryd.func46 (fun C hE hm hP hrc hrn => ?_)
  refine A_ ?_
  first | refine O_ ?_ | refine OD_ hm ?_
  refine G_ 200 hE ?_
  refine rc_ hE hP (chunk_fc GE l 253 (by omega)) Tryd.func90 ?_
  refine G_ 200 hE ?_
  first | refine rz ?_ | refine ZD_ ?_
  refine A_ ?_
  refine VC.weak ?_ (knilcs 3 0 2 (cs' := [.owns 2 0 []]) (by exact rfl) (by exact rfl) (by exact rfl))
  refine vf (dk := []) (sl := [(6, .chunk 115 l 253), (3, .ptr 3 1 0), (2, .nilS)]) hE hrn (by rw [hP]; exact chunk_ok) ?_ ?_ ?_ rfl rfl (fun ks => [(3, ⟨⟨1, 1, 1⟩, some (.cells [.owns 2 (spL l ks).length (atO (spL l ks))])⟩)]) (fun _ => True) ?_ trivial rfl [3] ?_ ?_ ?_ ?_
  · omega
  · omega
  · omega
  · rw [spL_0]
    exact wk_ hrc
  · exact look_nm rfl
  · exact fun d v h => absurd h (hrc d v)
  · intro C' pre k hE hP1 hkn _ hk hpre
    have hpb := Nat.lt_of_lt_of_le hpre (pcN_le (show 0 < 253 by omega))
    have hP := hP1.trans hP
    have hm : C'.P.follows .mixedOrders = true := by rw [hP]; kernel_rfl
    clear hrc hrn
    have hpl : (pc l 253 k).length ≤ 253 := by unfold pc; rw [List.length_take]; omega
    have hs1 := spL_s l pre k
    have hsl := spL_len l pre
    rw [hs1]
    generalize spL l pre = M at *
    generalize pc l 253 k = p at *
    refine wv_ (sos_ 3 0 902 0) ?_
    repeat' (first | refine A1_ ?_ | refine C_ hE (fun hc => ?_) (fun hc => ?_) <;> (try (exfalso; omega)))
    first | refine O_ ?_ | refine OD_ hm ?_
    refine G_ 2 hE ?_
    refine rc_ hE hP (clone_fc _ p (by omega)) Tryd.func85 ?_
    refine G_ 2 hE ?_
    refine AO_ hE ?_
    refine G_ 200 hE ?_
    first | refine rz ?_ | refine ZD_ ?_
    refine A_ ?_
    obtain ⟨M', hM'⟩ : ∃ M', M' = M ++ [((79 : Int), p)] := ⟨_, rfl⟩
    have hMl : M'.length = M.length + 1 := by rw [hM']; simp
    refine rq_n ?_ trivial
    refine Wk.trans (kclose 902 (M.length * 2 + 1) 10 (by exact rfl) (by exact at_last2 _ _ (atO_len M) _ _) (by exact rfl) (by exact rfl) (by exact rfl) (by exact rfl) (by exact at_set2 _ _ (atO_len M) _ _ _)) ?_
    rw [List.drop_zero, List.take_length, atO_snoc, ← hM', ← hMl]
    refine Wk.trans (scs_ 3 0 902) ?_
    refine wk_ofk rfl ?_ ?_ (fun d v h o ho => by have := hkn d v h o ho; simp at this ⊢; try omega) <;> (repeat' apply And.intro) <;> first | exact trivial | rfl | (intro o ho; simp [D.nm, nmL, ctNm, nmL_ownb, nmL_rob, nmL_str, nmL_cz] at ho <;> fail) | (intro o ho; simp [D.nm, nmL, ctNm, nmL_ownb, nmL_rob, nmL_str, nmL_cz] at ho ⊢ <;> omega) | (simp only [Z, U, Int.cast_ofNat_Int, UInt8.reduceToNat, UInt32.reduceToNat, Nat.reduceAdd, Nat.reduceMul, Nat.reduceSub, Nat.reduceLeDiff, Int.reduceToNat, Int.reducePow, Nat.reducePow] <;> fail) | (simp [St.ob, St.slot, look] <;> fail) | (simp [St.ob, St.slot, look]; omega) | simp [St.ob, St.slot, look] | skip
  · intro dk' _
    refine in_n ?_
    refine sq_n ?_
    have hsl := spL_len l (List.range (pcN l.length 253))
    generalize spL l (List.range (pcN l.length 253)) = M at *
    refine wv_ (sos_ 3 0 902 0) ?_
    refine A_ ?_
    exact ret_ (h := by exact ma3_)
end Go.Proofs.YtocfhkmdkdjinaaDoor

/- The reference of layer 19: Split. Printed by wp.py. -/
namespace Go.Proofs.YtocfhkmdkdjinaaDoor
open Go Go.RowKit
set_option linter.unusedVariables false
set_option linter.unusedSimpArgs false
set_option maxRecDepth 100000
set_option maxHeartbeats 4000000
attribute [local irreducible] inR VC RG VCn sq inS lq nq jq Wk
theorem nmL_atS : ∀ L : List (Int × List UInt8), nmL (atS L) = []
  | [] => rfl
  | a :: L => by
    show nmL ([D.int .i64 a.1, D.str a.2] ++ atS L) = []
    rw [nmL_append, nmL_atS L]
    rfl
theorem atS_nil : atS [] = [] := rfl
attribute [local simp] nmL_atS atS_fr atS_len spL_0 atS_nil
theorem sp_take (l : List UInt8) (k : Nat) : List.take (min ((l.drop (k * 253)).length : Int) 253).toNat (l.drop (k * 253)) = pc l 253 k := by
  unfold pc
  rcases Nat.lt_or_ge 253 (l.drop (k * 253)).length with h | h
  · rw [show (min ((l.drop (k * 253)).length : Int) 253).toNat = 253 by omega]
  · rw [List.take_of_length_le (by omega), List.take_of_length_le h]
theorem sp_drop (l : List UInt8) (k : Nat) : List.drop (min ((l.drop (k * 253)).length : Int) 253).toNat (l.drop (k * 253)) = l.drop ((k + 1) * 253) := by
  rcases Nat.lt_or_ge 253 (l.drop (k * 253)).length with h | h
  · rw [show (min ((l.drop (k * 253)).length : Int) 253).toNat = 253 by omega, List.drop_drop]
    congr 1
    omega
  · rw [List.drop_of_length_le (by omega)]
    rw [List.length_drop] at h
    rw [List.drop_of_length_le (by omega)]

namespace Ursplit_fc
theorem U : type_of% (@drop_rep UInt8) ∧ type_of% (@drop_rep D) ∧ type_of% (@List.take_zero UInt8) ∧ type_of% (@List.take_zero D) ∧ type_of% @decI ∧ type_of% @atS_len := ⟨(@drop_rep UInt8), (@drop_rep D), (@List.take_zero UInt8), (@List.take_zero D), @decI, @atS_len⟩
end Ursplit_fc
open Ursplit_fc
theorem rsplit_fc (l : List UInt8) (hl : l.length ≤ 100000) : FC Tryd.prog GE 49 [.str l] (.owns 2 (spL l (List.range (pcN l.length 253))).length (atS (spL l (List.range (pcN l.length 253))))) none := by
  refine fi_ 21 [2] ti_eq gpE Tryd.func49 (fun C hE hm hP hrc hrn => ?_)
  refine A_ ?_
  refine VC.weak ?_ (kniln 3 960 2 (g := 1) (c := .cells []) rfl rfl rfl)
  refine vl (fun k : Nat => ⟨[(0, .str (l.drop (k * 253))), (3, .sl 960 (1 + k) 0 k), (2, .nilS)], [(960, ⟨⟨1 + k, 2, k * 2⟩, some (.cells (atS (spL l (List.range k))))⟩)], []⟩) (fun k => k ≤ pcN l.length 253) (fun k => pcN l.length 253 - k) 0 ?_ (Nat.zero_le _) (fun k hk => ?_)
  · rw [List.range_zero, spL_0, Nat.zero_mul, List.drop_zero]
    exact wk_ hrc
  have hpn : pcN l.length 253 = (l.length + 253 - 1) / 253 := rfl
  have hdl : (l.drop (k * 253)).length = l.length - k * 253 := List.length_drop ..
  have hsl : (spL l (List.range k)).length = k := by rw [spL_len, List.length_range]
  by_cases hkl : k * 253 < l.length
  · have ht := sp_take l k
    have hd := sp_drop l k
    have hs := spL_s l (List.range k) k
    rw [← List.range_succ] at hs
    have hne : ¬ l.drop (k * 253) = [] := fun e => by rw [e] at hdl; simp at hdl; omega
    generalize l.drop (k * 253) = r at *
    refine A_ ?_
    refine C_ hE (fun hc1 => ?_) (fun hc1 => ?_) <;> (try (exfalso; omega))
    · refine A_ ?_
      first | refine O_ ?_ | refine OD_ hm ?_
      refine G_ 4 hE ?_
      rw [ht]
      refine G_ 2 hE ?_
      refine AO_ hE ?_
      refine G_ 200 hE ?_
      first | refine rz ?_ | refine ZD_ ?_
      refine A_ ?_
      rw [hd, atS_snoc, ← hs]
      refine lq_n (k + 1) ?_ (by omega) (by omega)
      rw [hsl, show k * 2 + 2 = (k + 1) * 2 by omega, show 1 + k + 1 = 1 + (k + 1) by omega]
      exact wk_ hrc
    · exact absurd hc1 hne
  · have hk2 : k = pcN l.length 253 := by omega
    have he : l.drop (k * 253) = [] := List.drop_of_length_le (by omega)
    rw [he]
    subst hk2
    rw [hsl]
    generalize hM : spL l (List.range (pcN l.length 253)) = M at *
    rw [← hsl]
    refine A_ ?_
    exact ret_ (h := by exact ma3_)
end Go.Proofs.YtocfhkmdkdjinaaDoor

/- The laws' told and attrs. Printed by wp.py. -/
namespace Go.Proofs.YtocfhkmdkdjinaaDoor
open Go Go.RowKit
set_option linter.unusedVariables false
set_option linter.unusedSimpArgs false
set_option maxRecDepth 100000
set_option maxHeartbeats 4000000
attribute [local irreducible] inR VC RG VCn sq inS lq nq jq Wk
theorem atO_nil : atO [] = [] := rfl
attribute [local simp] nmL_atS atS_fr atS_len atS_nil nmL_atO atO_fr atO_len atO_nil
theorem take_s2 (L : List (Int × List UInt8)) {k : Nat} (h : k < L.length) : L.take (k + 1) = L.take k ++ [((L.getD k (0, [])).1, (L.getD k (0, [])).2)] := by
  rw [getD_at L h, List.take_succ_eq_append_getElem h]

namespace Utold_fc
theorem U : type_of% (@drop_rep UInt8) ∧ type_of% (@drop_rep D) ∧ type_of% (@List.take_zero UInt8) ∧ type_of% (@List.take_zero D) ∧ type_of% @decI ∧ type_of% @atS_len ∧ type_of% @atO_len := ⟨(@drop_rep UInt8), (@drop_rep D), (@List.take_zero UInt8), (@List.take_zero D), @decI, @atS_len, @atO_len⟩
end Utold_fc
open Utold_fc
theorem told_fc (L : List (Int × List UInt8)) (hL : L.length ≤ 1000000) : FC Tryd.prog GE 45 [.rof 2 L.length (fR L)] (.owns 2 L.length (atS L)) none := by
  refine fi_ 27 [2] ti_eq gpE Tryd.func45 (fun C hE hm hP hrc hrn => ?_)
  refine A_ ?_
  refine VC.weak ?_ (kniln 3 960 2 (g := 1) (c := .cells []) rfl rfl rfl)
  refine vl (fun k : Nat => ⟨[(0, .rof 2 L.length (fR L)), (3, .sl 960 (1 + k) 0 k), (4, .int .i64 k), (2, .nilS)], [(960, ⟨⟨1 + k, 2, k * 2⟩, some (.cells (atS (L.take k)))⟩)], []⟩) (fun k => k ≤ L.length) (fun k => L.length - k) 0 ?_ (Nat.zero_le _) (fun k hk => ?_)
  · rw [List.take_zero]
    exact wk_ hrc
  have hsl : (L.take k).length = k := by rw [List.length_take]; omega
  by_cases hkl : k < L.length
  · have hs := take_s2 L hkl
    obtain ⟨a, ha⟩ : ∃ a, a = L.getD k (0, []) := ⟨_, rfl⟩
    have hf0 : fR L k 0 = .int .i64 a.1 := by rw [ha]; rfl
    have hf1 : fR L k 1 = .rob a.2 := by rw [ha]; rfl
    rw [← ha] at hs
    refine A_ ?_
    refine C_ hE (fun hc2 => ?_) (fun hc2 => ?_) <;> (try (exfalso; omega))
    refine A_ ?_
    first | refine O_ ?_ | refine OD_ hm ?_
    refine G_ 6 hE ?_
    rw [← ha]
    refine G_ 5 hE ?_
    rw [← ha]
    refine G_ 3 hE ?_
    refine AO_ hE ?_
    refine G_ 200 hE ?_
    first | refine rz ?_ | refine ZD_ ?_
    refine A_ ?_
    rw [atS_snoc, ← hs]
    refine lq_n (k + 1) ?_ (by omega) (by omega)
    rw [hsl, show k * 2 + 2 = (k + 1) * 2 by omega, show 1 + k + 1 = 1 + (k + 1) by omega]
    exact wk_ hrc
  · obtain rfl : k = L.length := by omega
    rw [List.take_length]
    refine A_ ?_
    refine C_ hE (fun hc2 => ?_) (fun hc2 => ?_) <;> (try (exfalso; omega))
    refine A_ ?_
    exact ret_ (h := by exact ma3_)
theorem attrs_fc (L : List (Int × List UInt8)) (hL : L.length ≤ 1000000) (hb : ∀ a ∈ L, a.2.length ≤ 100000) : FC Tryd.prog GE 48 [.rof 2 L.length (fS L)] (.owns 2 L.length (atO L)) none := by
  refine fi_ 27 [2] ti_eq gpE Tryd.func48 (fun C hE hm hP hrc hrn => ?_)
  refine A_ ?_
  refine VC.weak ?_ (kniln 3 960 2 (g := 1) (c := .cells []) rfl rfl rfl)
  refine vl (fun k : Nat => ⟨[(0, .rof 2 L.length (fS L)), (3, .sl 960 (1 + k) 0 k), (4, .int .i64 k), (2, .nilS)], [(960, ⟨⟨1 + k, 2, k * 2⟩, some (.cells (atO (L.take k)))⟩)], []⟩) (fun k => k ≤ L.length) (fun k => L.length - k) 0 ?_ (Nat.zero_le _) (fun k hk => ?_)
  · rw [List.take_zero]
    exact wk_ hrc
  have hsl : (L.take k).length = k := by rw [List.length_take]; omega
  by_cases hkl : k < L.length
  · have hs := take_s2 L hkl
    have hbk := hb _ (List.getElem_mem hkl)
    rw [← getD_at L hkl] at hbk
    obtain ⟨a, ha⟩ : ∃ a, a = L.getD k (0, []) := ⟨_, rfl⟩
    have hf0 : fS L k 0 = .int .i64 a.1 := by rw [ha]; rfl
    have hf1 : fS L k 1 = .str a.2 := by rw [ha]; rfl
    rw [← ha] at hs hbk
    refine A_ ?_
    refine C_ hE (fun hc2 => ?_) (fun hc2 => ?_) <;> (try (exfalso; omega))
    refine A_ ?_
    first | refine O_ ?_ | refine OD_ hm ?_
    refine G_ 6 hE ?_
    rw [← ha]
    refine G_ 5 hE ?_
    rw [← ha]
    refine G_ 3 hE ?_
    refine AO_ hE ?_
    refine G_ 200 hE ?_
    first | refine rz ?_ | refine ZD_ ?_
    refine A_ ?_
    refine lq_n (k + 1) ?_ (by omega) (by omega)
    refine Wk.trans (kclose 960 ((L.take k).length * 2 + 1) 22 (by exact rfl) (by exact at_last2 _ _ (atO_len _) _ _) (by exact rfl) (by exact rfl) (by exact rfl) (by exact rfl) (by exact at_set2 _ _ (atO_len _) _ _ _)) ?_
    rw [List.drop_zero, List.take_length, atO_snoc, ← hs, hsl, show k * 2 + 2 = (k + 1) * 2 by omega, show 1 + k + 1 = 1 + (k + 1) by omega]
    exact wk_ hrc
  · obtain rfl : k = L.length := by omega
    rw [List.take_length]
    refine A_ ?_
    refine C_ hE (fun hc2 => ?_) (fun hc2 => ?_) <;> (try (exfalso; omega))
    refine A_ ?_
    exact ret_ (h := by exact ma3_)
end Go.Proofs.YtocfhkmdkdjinaaDoor

/- The laws' to and from. Printed by wp.py. -/
namespace Go.Proofs.YtocfhkmdkdjinaaDoor
open Go Go.RowKit
set_option linter.unusedVariables false
set_option linter.unusedSimpArgs false
set_option maxRecDepth 100000
set_option maxHeartbeats 4000000
attribute [local irreducible] inR VC RG VCn sq inS lq nq jq Wk

namespace Uto_fc
theorem U : type_of% (@drop_rep UInt8) ∧ type_of% (@drop_rep D) ∧ type_of% (@List.take_zero UInt8) ∧ type_of% (@List.take_zero D) ∧ type_of% @q16_take ∧ type_of% @q16_len ∧ type_of% @q16_fold ∧ type_of% @q16_map ∧ type_of% @decI ∧ type_of% @atS_len ∧ type_of% @atO_len := ⟨(@drop_rep UInt8), (@drop_rep D), (@List.take_zero UInt8), (@List.take_zero D), @q16_take, @q16_len, @q16_fold, @q16_map, @decI, @atS_len, @atO_len⟩
end Uto_fc
open Uto_fc
theorem to_fc (c i : Int) (au : List UInt8) (L : List (Int × List UInt8)) (hL : L.length ≤ 1000000) (hb : ∀ a ∈ L, a.2.length ≤ 100000) : FC Tryd.prog GE 30 [.agg [.int .i64 c, .int .i64 i, .u8 (gb au 0), .u8 (gb au 1), .u8 (gb au 2), .u8 (gb au 3), .u8 (gb au 4), .u8 (gb au 5), .u8 (gb au 6), .u8 (gb au 7), .u8 (gb au 8), .u8 (gb au 9), .u8 (gb au 10), .u8 (gb au 11), .u8 (gb au 12), .u8 (gb au 13), .u8 (gb au 14), .u8 (gb au 15), .rof 2 L.length (fS L)]] (.agg [.int .i64 c, .int .i64 i, .u8 (gb au 0), .u8 (gb au 1), .u8 (gb au 2), .u8 (gb au 3), .u8 (gb au 4), .u8 (gb au 5), .u8 (gb au 6), .u8 (gb au 7), .u8 (gb au 8), .u8 (gb au 9), .u8 (gb au 10), .u8 (gb au 11), .u8 (gb au 12), .u8 (gb au 13), .u8 (gb au 14), .u8 (gb au 15), .owns 2 L.length (atO L)]) none := by
  refine fic_ 13 ti_eq gpE Tryd.func30 (fun C hE hm hP hrc hrn => ?_)
  refine A_ ?_
  first | refine O_ ?_ | refine OD_ hm ?_
  refine G_ 8 hE ?_
  refine rc_ hE hP (attrs_fc L hL hb) Tryd.func48 ?_ (hm := by exact ma2_) (hnr := by exact nrt2_) (had := by exact adt2_)
  refine G_ 200 hE ?_
  first | refine rz ?_ | refine ZD_ ?_
  refine A_ ?_
  exact retc_ (h := by exact ma3_)

theorem from_fc (c i : Int) (au : List UInt8) (L : List (Int × List UInt8)) (hL : L.length ≤ 1000000) : FC Tryd.prog GE 35 [.agg [.int .i64 c, .int .i64 i, .u8 (gb au 0), .u8 (gb au 1), .u8 (gb au 2), .u8 (gb au 3), .u8 (gb au 4), .u8 (gb au 5), .u8 (gb au 6), .u8 (gb au 7), .u8 (gb au 8), .u8 (gb au 9), .u8 (gb au 10), .u8 (gb au 11), .u8 (gb au 12), .u8 (gb au 13), .u8 (gb au 14), .u8 (gb au 15), .rof 2 L.length (fR L)]] (.agg [.int .i64 c, .int .i64 i, .u8 (gb au 0), .u8 (gb au 1), .u8 (gb au 2), .u8 (gb au 3), .u8 (gb au 4), .u8 (gb au 5), .u8 (gb au 6), .u8 (gb au 7), .u8 (gb au 8), .u8 (gb au 9), .u8 (gb au 10), .u8 (gb au 11), .u8 (gb au 12), .u8 (gb au 13), .u8 (gb au 14), .u8 (gb au 15), .owns 2 L.length (atS L)]) none := by
  refine fic_ 13 ti_eq gpE Tryd.func35 (fun C hE hm hP hrc hrn => ?_)
  refine A_ ?_
  first | refine O_ ?_ | refine OD_ hm ?_
  refine G_ 8 hE ?_
  refine rc_ hE hP (told_fc L hL) Tryd.func45 ?_ (hm := by exact ma2_) (hnr := by exact nrt2_) (had := by exact adt2_)
  refine G_ 200 hE ?_
  first | refine rz ?_ | refine ZD_ ?_
  refine A_ ?_
  exact retc_ (h := by exact ma3_)
end Go.Proofs.YtocfhkmdkdjinaaDoor
