/- What the claim leans on, text Zse: Seq, Ra18. No condition beyond what each lemma states. -/
import Derived.Test.YtocfhkmdkdjinaaDoorChecked
import Derived.Test.YtocfhkmdkdjinaaDoorZrc
import Derived.Laws.StructEq
import Derived.Test.YtocfhkmdkdjinaaDoorZd
import Derived.Test.YtocfhkmdkdjinaaDoorZt
import Derived.Test.YtocfhkmdkdjinaaDoorZsd

/- Attributes of the reference, compared. -/
namespace Go.Proofs.YtocfhkmdkdjinaaDoor
open Go Go.RowKit
set_option linter.unusedVariables false
set_option linter.unusedSimpArgs false
theorem eqg_attr : Tryd.prog.eqGuardType Tryd.prog.depth 83 = false := by kernel_rfl
theorem sto_attr : Tryd.prog.stoodInHeld 83 = false := by kernel_rfl
theorem und_attr : Tryd.prog.underlying 83 = some (.struct (Tryd.prog.fieldsOf 83)) := by kernel_rfl
theorem fld_attr : (Tryd.prog.fieldsOf 83).toList.map (fun f => (f.name, f.type, f.offset)) = [("Kind", 3, 0), ("Value", 9, 1)] := by kernel_rfl
theorem fld_ex : ∃ f1 f2 : Field, (Tryd.prog.fieldsOf 83).toList = [f1, f2] ∧ (f1.name = "Kind" ∧ f1.type = 3 ∧ f1.offset = 0) ∧ (f2.name = "Value" ∧ f2.type = 9 ∧ f2.offset = 1) := by
  have h := fld_attr
  rcases hl : (Tryd.prog.fieldsOf 83).toList with _ | ⟨f1, _ | ⟨f2, _ | ⟨f3, fs⟩⟩⟩ <;> rw [hl] at h <;> simp at h
  exact ⟨f1, f2, rfl, h.1, h.2⟩
theorem run_ne_attr (w : World) (a c : Int) (b d : List UInt8) : (binOp .neq 83 (.agg #[.int .i64 a, .string (str b)]) (.agg #[.int .i64 c, .string (str d)])).run Tryd.prog w = .ok (.bool (!(decide (a = c) && decide (b = d)))) w := by
  obtain ⟨f1, f2, hl, ⟨n1, t1, o1⟩, n2, t2, o2⟩ := fld_ex
  rw [run_neq_struct, show (10000 : Nat) = 9999 + 1 from rfl, run_equalIn_agg w 9999 _ _ _ und_attr sto_attr, hl]
  have u1 := Tryd.underlying3
  have u2 := Tryd.underlying9
  have i1 := Tryd.isAgg3
  have i2 := Tryd.isAgg9
  simp only [Op.eqFields, n1, n2, t1, t2, o1, o2]
  go_simp
  by_cases h1 : a = c <;> by_cases h2 : b = d <;> simp [h1, h2, str]
section
variable {C : Ctx} {s : St} {ρ : Nat → Pl} {S : Nat → Prop} {Φ : Nat → List Nat} {w : World} {pos : String} {after : Array Edge} {gd : Option (Nat × Bool)} {ty : TypeId}
theorem inv_attr {ρ : Nat → Pl} {H : Nat → Sh} {w : World} {S : Nat → Prop} {a : Int} {b : List UInt8} {v : Value} (h : RV w S ρ H (.agg [.int .i64 a, .str b]) v []) : v = .agg #[.int .i64 a, .string (str b)] := by
  obtain ⟨vs, rfl, hl, hr⟩ := inv_agg h
  match vs, hl with
  | [x, y], _ =>
    rw [inv_int (hr 0 _ x rfl rfl), inv_str (hr 1 _ y rfl rfl)]
theorem eff_qe {dst : Option Tmp} (hP : C.P = Tryd.prog) (T2 : TypeId) (x y : Operand) {a c : Int} {b d : List UInt8} (hx : ev C s x = .agg [.int .i64 a, .str b]) (hy : ev C s y = .agg [.int .i64 c, .str d]) (hd : dstOk C.n dst) :
    Eff C ⟨dst, .binOp .neq 83 x y T2, ty, pos, after, gd⟩ s (.bool (!(decide (a = c) && decide (b = d)))) [] (opT x ++ opT y) [] :=
  eff_pure hd fun σ hT hR a' w ρ S Φ h1 h2 => by
    obtain ⟨q1, q2⟩ := opT2 (C := C) hT
    have vx := ev_rv h1 h2 x
    rw [q1, hx] at vx
    have vy := ev_rv h1 h2 y
    rw [q2, hy] at vy
    have e1 := inv_attr vx
    have e2 := inv_attr vy
    refine ⟨_, ?_, .bool _⟩
    have h5 : (eqGuard .neq 83 x y (.agg #[.int .i64 a, .string (str b)]) (.agg #[.int .i64 c, .string (str d)])).run C.P w = .ok () w := by rw [hP]; exact run_eqGuard_agg w _ _ _ _ _ _ eqg_attr
    have h6 : (binOp .neq 83 (.agg #[.int .i64 a, .string (str b)]) (.agg #[.int .i64 c, .string (str d)])).run C.P w = .ok (.bool (!(decide (a = c) && decide (b = d)))) w := by rw [hP]; exact run_ne_attr w a c b d
    simp [execOp, e1, e2, h5, h6]
variable {Ti : Nat → TI} {G : Nat → Option D} {n : Nat} {ops : Array Oper} {acc acc' : Acc} {rest rest' : List Oper} {s1 s2 : St} {K : Acc → St → Prop} {W : St → St → Prop}
/-- Two attributes of the reference: are they not the same? -/
theorem QE_ {t : Nat} {T2 : TypeId} {x y : Operand} {a c : Int} {b d : List UInt8} (hE : Env C Ti G n) (hP : C.P = Tryd.prog) (hk : RG C ops W (([], []) :: acc) rest s2 K)
    (hx : frc (evg G s x) = some (.agg [.int .i64 a, .str b]) := by exact rfl) (hy : frc (evg G s y) = some (.agg [.int .i64 c, .str d]) := by exact rfl)
    (hc : gcO ops s gd = .yes := by exact rfl) (hb : dstB n (some t) = true := by exact rfl) (hs : s.puto (some t) (.bool (!(decide (a = c) && decide (b = d)))) = s2 := by exact nr_) : RG C ops W acc (⟨some t, .binOp .neq 83 x y T2, ty, pos, after, gd⟩ :: rest) s K := by
  subst hs
  intro M hM hW hend
  have hx' := frc_ok hx
  have hy' := frc_ok hy
  rw [← hE.g, ← ev_g] at hx' hy'
  refine hM.step _ _ _ _ _ [] [] (effG_yes (o := ⟨some t, _, ty, pos, after, gd⟩) hc ((eff_qe hP T2 x y hx' hy' (dstB_ok hE hb)).weak ?_ (fun _ h => h))) (hk M hM hW hend)
  intro v hv
  simp only [opsT, Op.operands, List.mem_flatMap] at hv ⊢
  rcases List.mem_append.1 hv with hv | hv
  · exact ⟨x, by simp, hv⟩
  · exact ⟨y, by simp, hv⟩
end
end Go.Proofs.YtocfhkmdkdjinaaDoor

/- The reference of layer 19: Attrs, Same. Printed by wp.py. -/
namespace Go.Proofs.YtocfhkmdkdjinaaDoor
open Go Go.RowKit
set_option linter.unusedVariables false
set_option linter.unusedSimpArgs false
set_option maxRecDepth 100000
set_option maxHeartbeats 4000000
attribute [local irreducible] inR VC RG VCn sq inS lq nq jq Wk
theorem qe_val (x y : Int × List UInt8) : (!(decide (x.1 = y.1) && decide (x.2 = y.2))) = !(decide (x = y)) := by
  rw [← Bool.decide_and]
  congr 1
  exact decide_eq_decide.2 Prod.ext_iff.symm
theorem take_eq_s (L M : List (Int × List UInt8)) (hl : L.length = M.length) {k : Nat} (hk : k < L.length) (h : L.take k = M.take k) (he : L.getD k (0, []) = M.getD k (0, [])) : L.take (k + 1) = M.take (k + 1) := by
  rw [List.take_succ_eq_append_getElem hk, List.take_succ_eq_append_getElem (by omega), h, ← getD_at L hk, ← getD_at M (by omega), he]

namespace Urattrs_fc
theorem U : type_of% (@drop_rep UInt8) ∧ type_of% (@drop_rep D) ∧ type_of% (@List.take_zero UInt8) ∧ type_of% (@List.take_zero D) ∧ type_of% @q16_take ∧ type_of% @q16_len ∧ type_of% @q16_fold ∧ type_of% @q16_map ∧ type_of% @decL ∧ type_of% @decI ∧ type_of% @atS_len := ⟨(@drop_rep UInt8), (@drop_rep D), (@List.take_zero UInt8), (@List.take_zero D), @q16_take, @q16_len, @q16_fold, @q16_map, @decL, @decI, @atS_len⟩
end Urattrs_fc
open Urattrs_fc
theorem rattrs_fc (L M : List (Int × List UInt8)) (hL : L.length ≤ 1000000) : FC Tryd.prog GE 44 [.rof 2 L.length (fS L), .rof 2 M.length (fS M)] (.bool (decide (L = M))) none := by
  refine fi_ 26 [4] ti_eq gpE Tryd.func44 (fun C hE hm hP hrc hrn => ?_)
  refine A_ ?_
  refine C_ hE (fun hc1 => ?_) (fun hc1 => ?_) <;> (try (exfalso; omega))
  · have hne : ¬ L = M := fun e => hc1 (by rw [e])
    rw [decide_eq_false hne]
    refine A_ ?_
    exact ret_
  · have hl : L.length = M.length := by omega
    refine A_ ?_
    refine vl (fun k : Nat => ⟨[(0, .rof 2 L.length (fS L)), (1, .rof 2 M.length (fS M)), (4, .bool false), (5, .int .i64 k)], [], []⟩) (fun k => k ≤ L.length ∧ L.take k = M.take k) (fun k => L.length - k) 0 ?_ ⟨Nat.zero_le _, rfl⟩ ?_
    · exact wk_ hrc
    rintro k ⟨hk, he⟩
    by_cases hkl : k < L.length
    · have hts := take_eq_s L M hl hkl he
      refine A_ ?_
      refine C_ hE (fun hc2 => ?_) (fun hc2 => ?_) <;> (try (exfalso; omega))
      refine A_ ?_
      first | refine O_ ?_ | refine OD_ hm ?_
      refine G_ 8 hE ?_
      refine QE_ hE hP ?_
      rw [qe_val]
      by_cases hab : L.getD k (0, []) = M.getD k (0, [])
      · rw [decide_eq_true hab, Bool.not_true]
        refine G_ 200 hE ?_
        first | refine rz ?_ | refine ZD_ ?_
        refine A_ ?_
        refine lq_n (k + 1) ?_ ⟨by omega, hts hab⟩ (by omega)
        exact wk_ hrc
      · have hne : ¬ L = M := fun e => hab (by rw [e])
        rw [decide_eq_false hab, Bool.not_false, decide_eq_false hne]
        refine G_ 200 hE ?_
        first | refine rz ?_ | refine ZD_ ?_
        refine A_ ?_
        exact ret_
    · obtain rfl : k = L.length := by omega
      rw [List.take_length, hl, List.take_length] at he
      rw [decide_eq_true he]
      refine A_ ?_
      refine C_ hE (fun hc2 => ?_) (fun hc2 => ?_) <;> (try (exfalso; omega))
      refine A_ ?_
      exact ret_
theorem rsame_fc (c i c2 i2 : Int) (au bu : List UInt8) (L M : List (Int × List UInt8)) (hL : L.length ≤ 1000000) : FC Tryd.prog GE 34 [.agg [.int .i64 c, .int .i64 i, .u8 (gb au 0), .u8 (gb au 1), .u8 (gb au 2), .u8 (gb au 3), .u8 (gb au 4), .u8 (gb au 5), .u8 (gb au 6), .u8 (gb au 7), .u8 (gb au 8), .u8 (gb au 9), .u8 (gb au 10), .u8 (gb au 11), .u8 (gb au 12), .u8 (gb au 13), .u8 (gb au 14), .u8 (gb au 15), .rof 2 L.length (fS L)], .agg [.int .i64 c2, .int .i64 i2, .u8 (gb bu 0), .u8 (gb bu 1), .u8 (gb bu 2), .u8 (gb bu 3), .u8 (gb bu 4), .u8 (gb bu 5), .u8 (gb bu 6), .u8 (gb bu 7), .u8 (gb bu 8), .u8 (gb bu 9), .u8 (gb bu 10), .u8 (gb bu 11), .u8 (gb bu 12), .u8 (gb bu 13), .u8 (gb bu 14), .u8 (gb bu 15), .rof 2 M.length (fS M)]] (.bool (decide (c = c2 ∧ i = i2 ∧ q16 au = q16 bu ∧ L = M))) none := by
  refine fi_ 31 [4] ti_eq gpE Tryd.func34 (fun C hE hm hP hrc hrn => ?_)
  refine vs ?_
  refine R_ hE ?_
  refine sq_n ?_
  refine vs ?_
  first | refine O_ ?_ | refine OD_ hm ?_
  refine G_ 5 hE ?_
  by_cases h1 : c = c2
  · rw [decide_eq_true h1]
    refine G_ 1 hE ?_
    refine GT_ hE (rfl) ?_
    refine GT_ hE (rfl) ?_
    refine GT_ hE (rfl) ?_
    refine GT_ hE (rfl) ?_
    refine GT_ hE (rfl) ?_
    by_cases h2 : i = i2
    · rw [decide_eq_true h2]
      refine G_ 2 hE ?_
      refine GT_ hE (rfl) ?_
      refine GT_ hE (rfl) ?_
      refine GT_ hE (rfl) ?_
      refine GT_ hE (rfl) ?_
      refine GT_ hE (rfl) ?_
      by_cases h3 : q16 au = q16 bu
      · rw [decide_eq_true h3]
        refine G_ 2 hE ?_
        refine GT_ hE (rfl) ?_
        refine GT_ hE (rfl) ?_
        refine GT_ hE (rfl) ?_
        refine GT_ hE (rfl) ?_
        refine rct_ hE hP (rattrs_fc L M hL) Tryd.func44 (rfl) ?_
        rw [show decide (c = c2 ∧ i = i2 ∧ q16 au = q16 bu ∧ L = M) = decide (L = M) from decide_eq_decide.2 ⟨fun h => h.2.2.2, fun h => ⟨h1, h2, h3, h⟩⟩]
        refine G_ 200 hE ?_
        first | refine rz ?_ | refine ZD_ ?_
        refine A_ ?_
        exact ret_
      · rw [decide_eq_false h3, decide_eq_false (show ¬ (c = c2 ∧ i = i2 ∧ q16 au = q16 bu ∧ L = M) from fun h => h3 h.2.2.1)]
        refine G_ 2 hE ?_
        refine GF_ hE (rfl) ?_
        refine GF_ hE (rfl) ?_
        refine GF_ hE (rfl) ?_
        refine GF_ hE (rfl) ?_
        refine GI_ (.bool true) hE (rfl) ?_
        refine G_ 200 hE ?_
        first | refine rz ?_ | refine ZD_ ?_
        refine A_ ?_
        exact ret_
    · rw [decide_eq_false h2, decide_eq_false (show ¬ (c = c2 ∧ i = i2 ∧ q16 au = q16 bu ∧ L = M) from fun h => h2 h.2.1)]
      refine G_ 2 hE ?_
      refine GF_ hE (rfl) ?_
      refine GF_ hE (rfl) ?_
      refine GF_ hE (rfl) ?_
      refine GF_ hE (rfl) ?_
      refine GI_ (.bool true) hE (rfl) ?_
      refine G_ 2 hE ?_
      refine GF_ hE (rfl) ?_
      refine GF_ hE (rfl) ?_
      refine GF_ hE (rfl) ?_
      refine GF_ hE (rfl) ?_
      refine GI_ (.bool true) hE (rfl) ?_
      refine G_ 200 hE ?_
      first | refine rz ?_ | refine ZD_ ?_
      refine A_ ?_
      exact ret_
  · rw [decide_eq_false h1, decide_eq_false (show ¬ (c = c2 ∧ i = i2 ∧ q16 au = q16 bu ∧ L = M) from fun h => h1 h.1)]
    refine G_ 1 hE ?_
    refine GF_ hE (rfl) ?_
    refine GF_ hE (rfl) ?_
    refine GF_ hE (rfl) ?_
    refine GF_ hE (rfl) ?_
    refine GI_ (.bool true) hE (rfl) ?_
    refine G_ 2 hE ?_
    refine GF_ hE (rfl) ?_
    refine GF_ hE (rfl) ?_
    refine GF_ hE (rfl) ?_
    refine GF_ hE (rfl) ?_
    refine GI_ (.bool true) hE (rfl) ?_
    refine G_ 2 hE ?_
    refine GF_ hE (rfl) ?_
    refine GF_ hE (rfl) ?_
    refine GF_ hE (rfl) ?_
    refine GF_ hE (rfl) ?_
    refine GI_ (.bool true) hE (rfl) ?_
    refine G_ 200 hE ?_
    first | refine rz ?_ | refine ZD_ ?_
    refine A_ ?_
    exact ret_
end Go.Proofs.YtocfhkmdkdjinaaDoor
