/- What the claim leans on, text Zql: Sh30. No condition beyond what each lemma states. -/
import Derived.Test.YtkokcibnkcmcjaaDoorZd
import Derived.Test.YtkokcibnkcmcjaaDoorZt
import Derived.Test.YtkokcibnkcmcjaaDoorZqk

/- HashGoes returns true. Printed by wp.py. -/
namespace Go.Proofs.YtkokcibnkcmcjaaDoor
open Go Go.RowKit
set_option linter.unusedVariables false
set_option linter.unusedSimpArgs false
set_option maxRecDepth 100000
set_option maxHeartbeats 4000000
attribute [local irreducible] inR VC RG VCn sq inS lq nq jq Wk
/-- Bytes put together with one, so many. -/
def xrA (p : List UInt8) (k : Nat) : List UInt8 := (p.take k).map (fun b => b ^^^ 90) ++ p.drop k
theorem xrA_zero (p : List UInt8) : xrA p 0 = p := rfl
theorem xrA_len (p : List UInt8) (k : Nat) : (xrA p k).length = p.length := by simp [xrA]; omega
theorem xrA_set (p : List UInt8) {i : Nat} (hi : i < p.length) : (xrA p i).set i (gb (xrA p i) i ^^^ 90) = xrA p (i + 1) := by
  have hl : ((p.take i).map (fun b => b ^^^ 90)).length = i := by simp; omega
  have hd : p.drop i = p[i] :: p.drop (i + 1) := List.drop_eq_getElem_cons hi
  have hg : gb (xrA p i) i = p[i] := by
    unfold gb xrA
    rw [hd, List.getD_eq_getElem?_getD, List.getElem?_append_right (by omega), hl, Nat.sub_self]
    rfl
  rw [hg]
  unfold xrA
  rw [hd, List.set_append_right _ _ (by omega), hl, Nat.sub_self, List.set_cons_zero, List.take_add_one, List.getElem?_eq_getElem hi, Option.toList_some, List.map_append, List.append_assoc]
  rfl
/-- Rows of which the first ones are so. -/
def xrR (ps : List (List UInt8)) (i : Nat) : List (List UInt8) := (ps.take i).map (fun p => xrA p p.length) ++ ps.drop i
theorem xrR_zero (ps : List (List UInt8)) : xrR ps 0 = ps := rfl
theorem xrR_len (ps : List (List UInt8)) (i : Nat) : (xrR ps i).length = ps.length := by simp [xrR]; omega
theorem xrR_get (ps : List (List UInt8)) {i : Nat} (h : i < ps.length) : ((xrR ps i).map D.ownb)[i]? = some (.ownb (ps.getD i [])) := by
  have hl : ((ps.take i).map (fun p => xrA p p.length)).length = i := by simp; omega
  rw [List.getElem?_map]
  unfold xrR
  rw [List.getElem?_append_right (by omega), hl, Nat.sub_self, List.getElem?_drop, Nat.add_zero, List.getElem?_eq_getElem h, List.getD_eq_getElem?_getD, List.getElem?_eq_getElem h]
  rfl
theorem xrR_set (ps : List (List UInt8)) {i : Nat} (h : i < ps.length) (d : D) : (((xrR ps i).map D.ownb).set i d).set i (.ownb (xrA (ps.getD i []) (ps.getD i []).length)) = (xrR ps (i + 1)).map D.ownb := by
  have hl : ((ps.take i).map (fun p => xrA p p.length)).length = i := by simp; omega
  have hd : ps.drop i = ps[i] :: ps.drop (i + 1) := List.drop_eq_getElem_cons h
  have hg : ps.getD i [] = ps[i] := by rw [List.getD_eq_getElem?_getD, List.getElem?_eq_getElem h]; rfl
  rw [List.set_set, hg]
  unfold xrR
  rw [hd, List.map_append, List.set_append_right _ _ (by simp; omega), List.length_map, hl, Nat.sub_self, List.map_cons, List.set_cons_zero, List.take_add_one, List.getElem?_eq_getElem h, Option.toList_some]
  simp only [List.map_append, List.map_cons, List.map_nil, List.append_assoc, List.cons_append, List.nil_append]
theorem stC_nm2 (l : List UInt8) : nmL (stC l) = [] := rfl
theorem nmL_set (L : List (List UInt8)) (i : Nat) (q : List UInt8) : nmL ((L.map D.ownb).set i (.ownb q)) = [] := by
  rw [show D.ownb q = D.ownb q from rfl, ← List.map_set]
  exact nmL_ownb _
theorem xrS_get (cs : List D) (i : Nat) (d : D) (h : i < cs.length) : (cs.set i d).getD i .bot = d := by
  rw [List.getD_eq_getElem?_getD, List.getElem?_set, if_pos rfl, if_pos h]
  rfl
attribute [local irreducible] sha stH stW abs8 xrA xrR
attribute [local simp] sha_length stC_len stC_nm2 nmL_set

namespace UhashGoes_fc
theorem U : type_of% @stC_len ∧ type_of% @sha_take ∧ type_of% @sha_length ∧ type_of% (@drop_rep UInt8) ∧ type_of% (@drop_rep D) ∧ type_of% (@List.take_zero UInt8) ∧ type_of% (@List.take_zero D) ∧ type_of% (@List.length_map (List UInt8) D) ∧ type_of% (@List.length_set D) := ⟨@stC_len, @sha_take, @sha_length, (@drop_rep UInt8), (@drop_rep D), (@List.take_zero UInt8), (@List.take_zero D), (@List.length_map (List UInt8) D), (@List.length_set D)⟩
end UhashGoes_fc
open UhashGoes_fc
theorem hashGoes_fc (ls : List (List UInt8)) (bs : List Bool) : FC Tryd.prog GS 6 [.rof 1 ls.length (fun i _ => .rob (ls.getD i [])), .rof 1 bs.length (fun i _ => .bool (bs.getD i false))] (.bool true) none := by
  refine fi_ 120 [4] ti_eq gpS Tryd.func6 (fun C hE hm hP hrc hrn => ?_)
  have hfl := fewL_flat ls 12 200
  have hfn := fewL_len ls 12 200
  have few := (FewO_fc ls 12 200 (by decide) (by decide)).any (G := GS)
  generalize fewL ls 12 200 = ps at *
  refine A_ ?_
  first | refine O_ ?_ | refine OD_ hm ?_
  refine G_ 200 hE ?_
  refine rc_ hE hP (none_fc) Tryd.func32 ?_
  refine G_ 200 hE ?_
  refine rc_ hE hP ((PutN_fc [120]).any) Tryd.func27 ?_
  refine G_ 200 hE ?_
  first | refine rz ?_ | refine ZD_ ?_
  refine A_ ?_
  first | refine O_ ?_ | refine OD_ hm ?_
  refine G_ 200 hE ?_
  refine rc_ hE hP (sums_fc) Tryd.func23 ?_
  refine G_ 2 hE ?_
  refine rct_ hE hP (none_fc) Tryd.func32 (rfl) ?_
  refine rct_ hE hP (SumN_fc.any) Tryd.func28 (rfl) ?_
  refine GT_ hE (rfl) ?_
  refine GT_ hE (rfl) ?_
  refine G_ 2 hE ?_
  refine rct_ hE hP (none_fc) Tryd.func32 (rfl) ?_
  refine rct_ hE hP (SizeN_fc.any) Tryd.func33 (rfl) ?_
  refine GT_ hE (rfl) ?_
  refine G_ 2 hE ?_
  refine rct_ hE hP (none_fc) Tryd.func32 (rfl) ?_
  refine rct_ hE hP (CopyN_fc.any) Tryd.func34 (rfl) ?_
  refine GT_ hE (rfl) ?_
  refine G_ 200 hE ?_
  first | refine rz ?_ | refine ZD_ ?_
  repeat' (first | refine A1_ ?_ | refine C_ hE (fun hc => ?_) (fun hc => ?_) <;> (try (exfalso; omega)))
  first | refine O_ ?_ | refine OD_ hm ?_
  refine G_ 200 hE ?_
  refine rc_ hE hP (few) Tryd.func21 ?_
  refine G_ 200 hE ?_
  first | refine rz ?_ | refine ZD_ ?_
  refine A_ ?_
  first | refine O_ ?_ | refine OD_ hm ?_
  refine G_ 200 hE ?_
  refine rc_ hE hP (New_fc) Tryd.func26 ?_
  refine G_ 200 hE ?_
  first | refine rz ?_ | refine ZD_ ?_
  refine A_ ?_
  refine vl (fun i : Nat => ⟨[(1, .rof 1 bs.length (fun i _ => .bool (bs.getD i false))), (5, .sl 36 1 0 ps.length), (6, .ptr 37 1 0), (7, .str (ps.take i).flatten), (8, .int .i64 i)], [(36, ⟨⟨1, 1, ps.length⟩, some (.cells ((xrR ps i).map D.ownb))⟩), (37, ⟨⟨1, 1, 10⟩, some (.cells (stC (ps.take i).flatten))⟩)], []⟩) (fun i => i ≤ ps.length) (fun i => ps.length - i) 0 ?_ (Nat.zero_le _) (fun i hi => ?_)
  · rw [xrR_zero]
    exact wk_ hrc
  · have hf2 := flat_le ps i
    have hxl := xrR_len ps i
    by_cases hlt : i < ps.length
    · have hf := flat_succ ps hlt
      have hf3 := flat_le ps (i + 1)
      rw [hf, List.length_append] at hf3
      have hget := xrR_get ps hlt
      have hset := xrR_set ps hlt (.sl 905 1 0 (ps.getD i []).length)
      have hg2 := xrS_get ((xrR ps i).map D.ownb) i (.sl 905 1 0 (ps.getD i []).length) (by rw [List.length_map, hxl]; exact hlt)
      generalize ps.getD i [] = p at *
      generalize (ps.take i).flatten = L at *
      repeat' (first | refine A1_ ?_ | refine C_ hE (fun hc => ?_) (fun hc => ?_) <;> (try (exfalso; omega)))
      refine VC.weak ?_ (kopen 36 i 905 (g := 0) (cs' := ((xrR ps i).map D.ownb).set i (.sl 905 1 0 p.length)) rfl hget rfl rfl rfl)
      first | refine O_ ?_ | refine OD_ hm ?_
      refine G_ 4 hE ?_
      refine L_ hE ?_ (hd := by exact hg2) (hg := by simp only [hg2]; exact sg_)
      refine G_ 1 hE ?_
      refine rc_ hE hP (Put1_fc L p (by omega)) Tryd.func27 ?_
      refine G_ 200 hE ?_
      first | refine rz ?_ | refine ZD_ ?_
      refine A_ ?_
      first | refine O_ ?_ | refine OD_ hm ?_
      refine G_ 4 hE ?_
      refine L_ hE ?_ (hd := by exact hg2) (hg := by simp only [hg2]; exact sg_)
      refine G_ 200 hE ?_
      first | refine rz ?_ | refine ZD_ ?_
      refine A_ ?_
      have hgi : ∀ d : D, (((xrR ps i).map D.ownb).set i d)[i]? = some d := fun d => by rw [List.getElem?_set, if_pos rfl, if_pos (by rw [List.length_map, hxl]; exact hlt)]
      refine VC.weak ?_ (kclose 36 i 905 (l := p) (cs' := ((xrR ps i).map D.ownb).set i (.ownb p)) rfl (hgi _) rfl rfl rfl rfl (by rw [List.drop_zero, List.take_length, List.set_set]))
      refine vl (fun k : Nat => ⟨[(1, .rof 1 bs.length (fun i _ => .bool (bs.getD i false))), (5, .sl 36 1 0 ps.length), (6, .ptr 37 1 0), (7, .str (L ++ p)), (8, .int .i64 i), (9, .int .i64 k)], [(36, ⟨⟨1, 1, ps.length⟩, some (.cells (((xrR ps i).map D.ownb).set i (.ownb (xrA p k))))⟩), (37, ⟨⟨1, 1, 10⟩, some (.cells (stC (L ++ p)))⟩)], []⟩) (fun k => k ≤ p.length) (fun k => p.length - k) 0 ?_ (Nat.zero_le _) (fun k hk => ?_)
      · rw [xrA_zero]
        exact wk_ hrc
      · have hkl := xrA_len p k
        refine VC.weak ?_ (kopen 36 i 905 (g := 0) (l := xrA p k) (cs' := ((xrR ps i).map D.ownb).set i (.sl 905 1 0 p.length)) rfl (hgi _) rfl rfl (by rw [List.set_set, hkl]))
        refine A_ ?_
        first | refine O_ ?_ | refine OD_ hm ?_
        refine G_ 4 hE ?_
        refine L_ hE ?_ (hd := by exact hg2) (hg := by simp only [hg2]; exact sg_)
        refine G_ 200 hE ?_
        first | refine rz ?_ | refine ZD_ ?_
        refine A_ ?_
        refine C_ hE (fun hc3 => ?_) (fun hc3 => ?_) <;> (try (exfalso; omega))
        · refine A_ ?_
          first | refine O_ ?_ | refine OD_ hm ?_
          refine G_ 3 hE ?_
          refine L_ hE ?_ (hd := by exact hg2) (hg := by simp only [hg2]; exact sg_)
          refine G_ 200 hE ?_
          first | refine rz ?_ | refine ZD_ ?_
          refine A_ ?_
          rw [xrA_set p (show k < p.length by omega)]
          refine lq_n (k + 1) ?_ (by omega) (by omega)
          refine Wk.trans (kclose 36 i 905 (l := xrA p (k + 1)) (cs' := ((xrR ps i).map D.ownb).set i (.ownb (xrA p (k + 1)))) rfl (hgi _) rfl rfl rfl rfl (by rw [List.drop_zero, List.take_of_length_le (by rw [xrA_len]; omega), List.set_set])) ?_
          exact wk_ hrc
        · obtain rfl : k = p.length := by omega
          refine A_ ?_
          refine VC.weak ?_ (kclose 36 i 905 (l := xrA p p.length) (cs' := (xrR ps (i + 1)).map D.ownb) rfl (hgi _) rfl rfl rfl rfl (by rw [List.drop_zero, List.take_of_length_le (by omega), hset]))
          have hsl := sha_length (L ++ p)
          have hLp : (L ++ p).length ≤ 100000 := by rw [List.length_append]; omega
          rw [← hf] at hsl hLp ⊢
          obtain ⟨M, hM⟩ : ∃ M, M = (ps.take (i + 1)).flatten := ⟨_, rfl⟩
          rw [← hM] at hsl hLp ⊢
          refine C_ hE (fun hc4 => ?_) (fun hc4 => ?_) <;> (try (exfalso; omega))
          · refine A_ ?_
            first | refine O_ ?_ | refine OD_ hm ?_
            refine G_ 200 hE ?_
            refine rc_ hE hP (Sum_fc M (by omega)) Tryd.func28 ?_
            refine G_ 200 hE ?_
            first | refine rz ?_ | refine ZD_ ?_
            refine A_ ?_
            first | refine O_ ?_ | refine OD_ hm ?_
            refine G_ 200 hE ?_
            refine rc_ hE hP (rSum_fc M (by omega)) Tryd.func24 ?_
            refine G_ 2 hE ?_
            refine GT_ hE (rfl) ?_
            refine rct_ hE hP (Size_fc M) Tryd.func33 (rfl) ?_
            refine GT_ hE (rfl) ?_
            refine GT_ hE (rfl) ?_
            refine GT_ hE (rfl) ?_
            refine G_ 200 hE ?_
            first | refine rz ?_ | refine ZD_ ?_
            repeat' (first | refine A1_ ?_ | refine C_ hE (fun hc => ?_) (fun hc => ?_) <;> (try (exfalso; omega)))
            refine lq_n (i + 1) ?_ (by omega) (by omega)
            rw [← hM]
            exact wk_ hrc
          · repeat' (first | refine A1_ ?_ | refine C_ hE (fun hc => ?_) (fun hc => ?_) <;> (try (exfalso; omega)))
            refine lq_n (i + 1) ?_ (by omega) (by omega)
            rw [← hM]
            exact wk_ hrc
    · obtain rfl : i = ps.length := by omega
      rw [List.take_length] at hf2 ⊢
      have hsl := sha_length ps.flatten
      generalize ps.flatten = M at *
      repeat' (first | refine A1_ ?_ | refine C_ hE (fun hc => ?_) (fun hc => ?_) <;> (try (exfalso; omega)))
      first | refine O_ ?_ | refine OD_ hm ?_
      refine G_ 200 hE ?_
      refine rc_ hE hP (Sum_fc M (by omega)) Tryd.func28 ?_
      refine G_ 200 hE ?_
      first | refine rz ?_ | refine ZD_ ?_
      refine A_ ?_
      first | refine O_ ?_ | refine OD_ hm ?_
      refine G_ 200 hE ?_
      refine rc_ hE hP (rSum_fc M (by omega)) Tryd.func24 ?_
      refine G_ 2 hE ?_
      refine GT_ hE (rfl) ?_
      refine rct_ hE hP (Sum_fc M (by omega)) Tryd.func28 (rfl) ?_
      refine GT_ hE (rfl) ?_
      refine GT_ hE (rfl) ?_
      refine G_ 2 hE ?_
      refine GT_ hE (rfl) ?_
      refine rct_ hE hP (Size_fc M) Tryd.func33 (rfl) ?_
      refine GT_ hE (rfl) ?_
      refine GT_ hE (rfl) ?_
      refine GT_ hE (rfl) ?_
      refine G_ 200 hE ?_
      first | refine rz ?_ | refine ZD_ ?_
      refine A_ ?_
      exact ret_
end Go.Proofs.YtkokcibnkcmcjaaDoor
