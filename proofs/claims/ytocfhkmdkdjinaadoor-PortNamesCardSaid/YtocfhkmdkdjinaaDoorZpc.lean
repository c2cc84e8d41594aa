/- What the claim leans on, text Zpc: Ra11. No condition beyond what each lemma states. -/
import Derived.Test.YtocfhkmdkdjinaaDoorZd
import Derived.Test.YtocfhkmdkdjinaaDoorZt
import Derived.Test.YtocfhkmdkdjinaaDoorZre
import Derived.Test.YtocfhkmdkdjinaaDoorZqh

/- radius: Split. Printed by wp.py. -/
namespace Go.Proofs.YtocfhkmdkdjinaaDoor
open Go Go.RowKit
set_option linter.unusedVariables false
set_option linter.unusedSimpArgs false
set_option maxRecDepth 100000
set_option maxHeartbeats 4000000
attribute [local irreducible] inR VC RG VCn sq inS lq nq jq Wk rq
attribute [local simp] nmL_atO atO_fr atO_len
/-- Pieces as attributes of EAP. -/
def spL (l : List UInt8) (ks : List Nat) : List (Int × List UInt8) := ks.map fun k => (79, pc l 253 k)
theorem spL_0 (l : List UInt8) : spL l [] = [] := rfl
theorem spL_s (l : List UInt8) (pre : List Nat) (k : Nat) : spL l (pre ++ [k]) = spL l pre ++ [(79, pc l 253 k)] := by unfold spL; rw [List.map_append]; rfl
theorem spL_len (l : List UInt8) (ks : List Nat) : (spL l ks).length = ks.length := List.length_map _
attribute [local irreducible] spL

namespace Usplit_fc
theorem U : type_of% (@drop_rep UInt8) ∧ type_of% (@drop_rep D) ∧ type_of% (@List.take_zero UInt8) ∧ type_of% (@List.take_zero D) ∧ type_of% @decI ∧ type_of% @atO_len := ⟨(@drop_rep UInt8), (@drop_rep D), (@List.take_zero UInt8), (@List.take_zero D), @decI, @atO_len⟩
end Usplit_fc
open Usplit_fc
theorem split_fc (l : List UInt8) (hl : l.length ≤ 100000) : FC Tryd.prog GE 46 [.rob l] (.owns 2 (spL l (List.range (pcN l.length 253))).length (atO (spL l (List.range (pcN l.length 253))))) none := by
  refine fi_ 15 [2] ti_eq gpE Tryd.func46 (fun C hE hm hP hrc hrn => ?_)
  refine A_ ?_
  first | refine O_ ?_ | refine OD_ hm ?_
  refine G_ 200 hE ?_
  refine rc_ hE hP (chunk_fc GE l 253 (by omega)) Tryd.func90 ?_
  refine G_ 200 hE ?_
  first | refine rz ?_ | refine ZD_ ?_
  refine A_ ?_
  refine VC.weak ?_ (knilcs 3 0 2 (cs' := [.owns 2 0 []]) (by exact rfl) (by exact rfl) (by exact rfl))
  refine vf (dk := []) (sl := [(6, .chunk 115 l 253), (3, .ptr 3 1 0), (2, .nilS)]) hE hrn (by rw [hP]; exact chunk_ok) ?_ ?_ ?_ rfl rfl (fun ks => [(3, ⟨⟨1, 1, 1⟩, some (.cells [.owns 2 (spL l ks).length (atO (spL l ks))])⟩)]) (fun _ => True) ?_ trivial rfl [3] ?_ ?_ ?_ ?_
  · omega
  · omega
  · omega
  · rw [spL_0]
    exact wk_ hrc
  · exact look_nm rfl
  · exact fun d v h => absurd h (hrc d v)
  · intro C' pre k hE hP1 hkn _ hk hpre
    have hpb := Nat.lt_of_lt_of_le hpre (pcN_le (show 0 < 253 by omega))
    have hP := hP1.trans hP
    have hm : C'.P.follows .mixedOrders = true := by rw [hP]; kernel_rfl
    clear hrc hrn
    have hpl : (pc l 253 k).length ≤ 253 := by unfold pc; rw [List.length_take]; omega
    have hs1 := spL_s l pre k
    have hsl := spL_len l pre
    rw [hs1]
    generalize spL l pre = M at *
    generalize pc l 253 k = p at *
    refine wv_ (sos_ 3 0 902 0) ?_
    repeat' (first | refine A1_ ?_ | refine C_ hE (fun hc => ?_) (fun hc => ?_) <;> (try (exfalso; omega)))
    first | refine O_ ?_ | refine OD_ hm ?_
    refine G_ 2 hE ?_
    refine rc_ hE hP (clone_fc _ p (by omega)) Tryd.func85 ?_
    refine G_ 2 hE ?_
    refine AO_ hE ?_
    refine G_ 200 hE ?_
    first | refine rz ?_ | refine ZD_ ?_
    refine A_ ?_
    obtain ⟨M', hM'⟩ : ∃ M', M' = M ++ [((79 : Int), p)] := ⟨_, rfl⟩
    have hMl : M'.length = M.length + 1 := by rw [hM']; simp
    refine rq_n ?_ trivial
    refine Wk.trans (kclose 902 (M.length * 2 + 1) 10 (by exact rfl) (by exact at_last2 _ _ (atO_len M) _ _) (by exact rfl) (by exact rfl) (by exact rfl) (by exact rfl) (by exact at_set2 _ _ (atO_len M) _ _ _)) ?_
    rw [List.drop_zero, List.take_length, atO_snoc, ← hM', ← hMl]
    refine Wk.trans (scs_ 3 0 902) ?_
    refine wk_ofk rfl ?_ ?_ (fun d v h o ho => by have := hkn d v h o ho; simp at this ⊢; try omega) <;> (repeat' apply And.intro) <;> first | exact trivial | rfl | (intro o ho; simp [D.nm, nmL, ctNm, nmL_ownb, nmL_rob, nmL_str, nmL_cz] at ho <;> fail) | (intro o ho; simp [D.nm, nmL, ctNm, nmL_ownb, nmL_rob, nmL_str, nmL_cz] at ho ⊢ <;> omega) | (simp only [Z, U, Int.cast_ofNat_Int, UInt8.reduceToNat, UInt32.reduceToNat, Nat.reduceAdd, Nat.reduceMul, Nat.reduceSub, Nat.reduceLeDiff, Int.reduceToNat, Int.reducePow, Nat.reducePow] <;> fail) | (simp [St.ob, St.slot, look] <;> fail) | (simp [St.ob, St.slot, look]; omega) | simp [St.ob, St.slot, look] | skip
  · intro dk' _
    refine in_n ?_
    refine sq_n ?_
    have hsl := spL_len l (List.range (pcN l.length 253))
    generalize spL l (List.range (pcN l.length 253)) = M at *
    refine wv_ (sos_ 3 0 902 0) ?_
    refine A_ ?_
    exact ret_ (h := by exact ma3_)
end Go.Proofs.YtocfhkmdkdjinaaDoor
