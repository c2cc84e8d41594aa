/- What the claim leans on, text Zsf: Tam. No condition beyond what each lemma states. -/
import Derived.Test.YtocfhkmdkdjinaaDoorZd
import Derived.Test.YtocfhkmdkdjinaaDoorZt
import Derived.Test.YtocfhkmdkdjinaaDoorZsd

/- The laws of layer 19: tame. Printed by wp.py. -/
namespace Go.Proofs.YtocfhkmdkdjinaaDoor
open Go Go.RowKit
set_option linter.unusedVariables false
set_option linter.unusedSimpArgs false
set_option maxRecDepth 100000
set_option maxHeartbeats 4000000
attribute [local irreducible] inR VC RG VCn sq inS lq nq jq Wk
attribute [local simp] nmL_atS atS_fr atS_nil
/-- No more than 20 attributes of 260 bytes. -/
def tmL (L : List (Int × List UInt8)) : List (Int × List UInt8) := (L.take 20).map fun a => (a.1, a.2.take 260)
theorem tmL_len (L : List (Int × List UInt8)) : (tmL L).length = min 20 L.length := by unfold tmL; rw [List.length_map, List.length_take]
theorem tmL_b {L : List (Int × List UInt8)} : ∀ a ∈ tmL L, a.2.length ≤ 260 := by
  intro a ha
  obtain ⟨b, -, rfl⟩ := List.mem_map.1 ha
  simp only [List.length_take]
  omega
theorem tmL_idem {L : List (Int × List UInt8)} (h : L.length ≤ 20) (hb : ∀ a ∈ L, a.2.length ≤ 260) : tmL L = L := by
  unfold tmL
  rw [List.take_of_length_le h]
  conv => rhs; rw [← List.map_id L]
  exact List.map_congr_left fun a ha => by rw [List.take_of_length_le (hb a ha)]; rfl
/-- The first k of them. -/
def tmK (L : List (Int × List UInt8)) (k : Nat) : List (Int × List UInt8) := (L.take k).map fun a => (a.1, a.2.take 260)
theorem tmK_0 (L : List (Int × List UInt8)) : tmK L 0 = [] := rfl
theorem tmK_len (L : List (Int × List UInt8)) {k : Nat} (h : k ≤ L.length) : (tmK L k).length = k := by unfold tmK; rw [List.length_map, List.length_take]; omega
theorem tmK_s (L : List (Int × List UInt8)) {k : Nat} (h : k < L.length) : tmK L k ++ [((L.getD k (0, [])).1, (L.getD k (0, [])).2.take 260)] = tmK L (k + 1) := by
  unfold tmK
  rw [List.take_succ_eq_append_getElem h, List.map_append, getD_at L h]
  rfl
theorem tmK_end (L : List (Int × List UInt8)) {k : Nat} (h : k = L.length ∨ k = 20) (h2 : k ≤ 20) : tmK L k = tmL L := by
  unfold tmK tmL
  rcases h with rfl | rfl
  · rw [List.take_length, List.take_of_length_le h2]
  · rfl
theorem tm_take (v : List UInt8) : List.take (min (v.length : Int) 260).toNat v = v.take 260 := by
  rcases Nat.lt_or_ge 260 v.length with h | h
  · rw [show (min (v.length : Int) 260).toNat = 260 by omega]
  · rw [List.take_of_length_le (by omega), List.take_of_length_le h]
attribute [local irreducible] tmK tmL

namespace Utame_fc
theorem U : type_of% (@drop_rep UInt8) ∧ type_of% (@drop_rep D) ∧ type_of% (@List.take_zero UInt8) ∧ type_of% (@List.take_zero D) ∧ type_of% @q16_take ∧ type_of% @q16_len ∧ type_of% @q16_fold ∧ type_of% @q16_map ∧ type_of% @decL ∧ type_of% @decI ∧ type_of% @atS_len := ⟨(@drop_rep UInt8), (@drop_rep D), (@List.take_zero UInt8), (@List.take_zero D), @q16_take, @q16_len, @q16_fold, @q16_map, @decL, @decI, @atS_len⟩
end Utame_fc
open Utame_fc
theorem tame_fc (c i : Int) (au : List UInt8) (L : List (Int × List UInt8)) : FC Tryd.prog GE 29 [.agg [.int .i64 c, .int .i64 i, .u8 (gb au 0), .u8 (gb au 1), .u8 (gb au 2), .u8 (gb au 3), .u8 (gb au 4), .u8 (gb au 5), .u8 (gb au 6), .u8 (gb au 7), .u8 (gb au 8), .u8 (gb au 9), .u8 (gb au 10), .u8 (gb au 11), .u8 (gb au 12), .u8 (gb au 13), .u8 (gb au 14), .u8 (gb au 15), .rof 2 L.length (fS L)]] (.agg [.int .i64 c, .int .i64 i, .u8 (gb au 0), .u8 (gb au 1), .u8 (gb au 2), .u8 (gb au 3), .u8 (gb au 4), .u8 (gb au 5), .u8 (gb au 6), .u8 (gb au 7), .u8 (gb au 8), .u8 (gb au 9), .u8 (gb au 10), .u8 (gb au 11), .u8 (gb au 12), .u8 (gb au 13), .u8 (gb au 14), .u8 (gb au 15), .owns 2 (tmL L).length (atS (tmL L))]) none := by
  refine fic_ 44 ti_eq gpE Tryd.func29 (fun C hE hm hP hrc hrn => ?_)
  refine A_ ?_
  refine VC.weak ?_ (kniln 3 960 2 (g := 1) (c := .cells []) rfl rfl rfl)
  refine vl (fun k : Nat => ⟨[(1, .ptr 1 1 0), (2, .ptr 2 1 0), (3, .sl 960 (1 + k) 0 k), (4, .int .i64 k)], [(960, ⟨⟨1 + k, 2, k * 2⟩, some (.cells (atS (tmK L k)))⟩), (1, ⟨⟨1, 1, 19⟩, some (.cells [.int .i64 c, .int .i64 i, .u8 (gb au 0), .u8 (gb au 1), .u8 (gb au 2), .u8 (gb au 3), .u8 (gb au 4), .u8 (gb au 5), .u8 (gb au 6), .u8 (gb au 7), .u8 (gb au 8), .u8 (gb au 9), .u8 (gb au 10), .u8 (gb au 11), .u8 (gb au 12), .u8 (gb au 13), .u8 (gb au 14), .u8 (gb au 15), .rof 2 L.length (fS L)])⟩), (2, ⟨⟨1, 1, 19⟩, some (.cells [.int .i64 0, .int .i64 0, .u8 0, .u8 0, .u8 0, .u8 0, .u8 0, .u8 0, .u8 0, .u8 0, .u8 0, .u8 0, .u8 0, .u8 0, .u8 0, .u8 0, .u8 0, .u8 0, .nilS])⟩)], []⟩) (fun k => k ≤ L.length ∧ k ≤ 20) (fun k => 20 - k) 0 ?_ ⟨Nat.zero_le _, by omega⟩ ?_
  · rw [tmK_0]
    exact wk_ hrc
  rintro k ⟨hk, hk20⟩
  have hsl := tmK_len L hk
  by_cases hkl : k < L.length
  · by_cases hk2 : k < 20
    · have hs := tmK_s L hkl
      obtain ⟨a, ha⟩ : ∃ a, a = L.getD k (0, []) := ⟨_, rfl⟩
      have hf0 : fS L k 0 = .int .i64 a.1 := by rw [ha]; rfl
      have hf1 : fS L k 1 = .str a.2 := by rw [ha]; rfl
      rw [← ha] at hs
      refine A_ ?_
      refine C_ hE (fun hc => ?_) (fun hc => ?_) <;> (try (exfalso; omega))
      refine A_ ?_
      first | refine O_ ?_ | refine OD_ hm ?_
      refine G_ 22 hE ?_
      rw [← ha]
      rw [tm_take]
      refine G_ 2 hE ?_
      refine AO_ hE ?_
      refine G_ 200 hE ?_
      first | refine rz ?_ | refine ZD_ ?_
      refine A_ ?_
      rw [atS_snoc, hs]
      refine lq_n (k + 1) ?_ (by omega) (by omega)
      rw [hsl, show k * 2 + 2 = (k + 1) * 2 by omega, show 1 + k + 1 = 1 + (k + 1) by omega]
      exact wk_ hrc
    · rw [tmK_end L (.inr (by omega)) hk20] at hsl ⊢
      subst hsl
      refine A_ ?_
      refine C_ hE (fun hc => ?_) (fun hc => ?_) <;> (try (exfalso; omega))
      refine A_ ?_
      exact retc_ (h := by exact ma3_)
  · rw [tmK_end L (.inl (by omega)) hk20] at hsl ⊢
    subst hsl
    refine A_ ?_
    refine C_ hE (fun hc => ?_) (fun hc => ?_) <;> (try (exfalso; omega))
    refine A_ ?_
    exact retc_ (h := by exact ma3_)
end Go.Proofs.YtocfhkmdkdjinaaDoor
