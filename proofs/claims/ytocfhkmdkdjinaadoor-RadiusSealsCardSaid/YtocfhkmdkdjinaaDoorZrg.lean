/- What the claim leans on, text Zrg: Seq, Ra18, Aoc, Cpc, Ra19. No condition beyond what each lemma states. -/
import Derived.Test.YtocfhkmdkdjinaaDoorChecked
import Derived.Test.YtocfhkmdkdjinaaDoorZrc
import Derived.Laws.StructEq
import Derived.Test.YtocfhkmdkdjinaaDoorZd
import Derived.Test.YtocfhkmdkdjinaaDoorZt
import Derived.Test.YtocfhkmdkdjinaaDoorZrf
import Derived.Test.YtocfhkmdkdjinaaDoorZra

/- Attributes of the reference, compared. -/
namespace Go.Proofs.YtocfhkmdkdjinaaDoor
open Go Go.RowKit
set_option linter.unusedVariables false
set_option linter.unusedSimpArgs false
theorem eqg_attr : Tryd.prog.eqGuardType Tryd.prog.depth 83 = false := by kernel_rfl
theorem sto_attr : Tryd.prog.stoodInHeld 83 = false := by kernel_rfl
theorem und_attr : Tryd.prog.underlying 83 = some (.struct (Tryd.prog.fieldsOf 83)) := by kernel_rfl
theorem fld_attr : (Tryd.prog.fieldsOf 83).toList.map (fun f => (f.name, f.type, f.offset)) = [("Kind", 3, 0), ("Value", 9, 1)] := by kernel_rfl
theorem fld_ex : ∃ f1 f2 : Field, (Tryd.prog.fieldsOf 83).toList = [f1, f2] ∧ (f1.name = "Kind" ∧ f1.type = 3 ∧ f1.offset = 0) ∧ (f2.name = "Value" ∧ f2.type = 9 ∧ f2.offset = 1) := by
  have h := fld_attr
  rcases hl : (Tryd.prog.fieldsOf 83).toList with _ | ⟨f1, _ | ⟨f2, _ | ⟨f3, fs⟩⟩⟩ <;> rw [hl] at h <;> simp at h
  exact ⟨f1, f2, rfl, h.1, h.2⟩
theorem run_ne_attr (w : World) (a c : Int) (b d : List UInt8) : (binOp .neq 83 (.agg #[.int .i64 a, .string (str b)]) (.agg #[.int .i64 c, .string (str d)])).run Tryd.prog w = .ok (.bool (!(decide (a = c) && decide (b = d)))) w := by
  obtain ⟨f1, f2, hl, ⟨n1, t1, o1⟩, n2, t2, o2⟩ := fld_ex
  rw [run_neq_struct, show (10000 : Nat) = 9999 + 1 from rfl, run_equalIn_agg w 9999 _ _ _ und_attr sto_attr, hl]
  have u1 := Tryd.underlying3
  have u2 := Tryd.underlying9
  have i1 := Tryd.isAgg3
  have i2 := Tryd.isAgg9
  simp only [Op.eqFields, n1, n2, t1, t2, o1, o2]
  go_simp
  by_cases h1 : a = c <;> by_cases h2 : b = d <;> simp [h1, h2, str]
section
variable {C : Ctx} {s : St} {ρ : Nat → Pl} {S : Nat → Prop} {Φ : Nat → List Nat} {w : World} {pos : String} {after : Array Edge} {gd : Option (Nat × Bool)} {ty : TypeId}
theorem inv_attr {ρ : Nat → Pl} {H : Nat → Sh} {w : World} {S : Nat → Prop} {a : Int} {b : List UInt8} {v : Value} (h : RV w S ρ H (.agg [.int .i64 a, .str b]) v []) : v = .agg #[.int .i64 a, .string (str b)] := by
  obtain ⟨vs, rfl, hl, hr⟩ := inv_agg h
  match vs, hl with
  | [x, y], _ =>
    rw [inv_int (hr 0 _ x rfl rfl), inv_str (hr 1 _ y rfl rfl)]
theorem eff_qe {dst : Option Tmp} (hP : C.P = Tryd.prog) (T2 : TypeId) (x y : Operand) {a c : Int} {b d : List UInt8} (hx : ev C s x = .agg [.int .i64 a, .str b]) (hy : ev C s y = .agg [.int .i64 c, .str d]) (hd : dstOk C.n dst) :
    Eff C ⟨dst, .binOp .neq 83 x y T2, ty, pos, after, gd⟩ s (.bool (!(decide (a = c) && decide (b = d)))) [] (opT x ++ opT y) [] :=
  eff_pure hd fun σ hT hR a' w ρ S Φ h1 h2 => by
    obtain ⟨q1, q2⟩ := opT2 (C := C) hT
    have vx := ev_rv h1 h2 x
    rw [q1, hx] at vx
    have vy := ev_rv h1 h2 y
    rw [q2, hy] at vy
    have e1 := inv_attr vx
    have e2 := inv_attr vy
    refine ⟨_, ?_, .bool _⟩
    have h5 : (eqGuard .neq 83 x y (.agg #[.int .i64 a, .string (str b)]) (.agg #[.int .i64 c, .string (str d)])).run C.P w = .ok () w := by rw [hP]; exact run_eqGuard_agg w _ _ _ _ _ _ eqg_attr
    have h6 : (binOp .neq 83 (.agg #[.int .i64 a, .string (str b)]) (.agg #[.int .i64 c, .string (str d)])).run C.P w = .ok (.bool (!(decide (a = c) && decide (b = d)))) w := by rw [hP]; exact run_ne_attr w a c b d
    simp [execOp, e1, e2, h5, h6]
variable {Ti : Nat → TI} {G : Nat → Option D} {n : Nat} {ops : Array Oper} {acc acc' : Acc} {rest rest' : List Oper} {s1 s2 : St} {K : Acc → St → Prop} {W : St → St → Prop}
/-- Two attributes of the reference: are they not the same? -/
theorem QE_ {t : Nat} {T2 : TypeId} {x y : Operand} {a c : Int} {b d : List UInt8} (hE : Env C Ti G n) (hP : C.P = Tryd.prog) (hk : RG C ops W (([], []) :: acc) rest s2 K)
    (hx : frc (evg G s x) = some (.agg [.int .i64 a, .str b]) := by exact rfl) (hy : frc (evg G s y) = some (.agg [.int .i64 c, .str d]) := by exact rfl)
    (hc : gcO ops s gd = .yes := by exact rfl) (hb : dstB n (some t) = true := by exact rfl) (hs : s.puto (some t) (.bool (!(decide (a = c) && decide (b = d)))) = s2 := by exact nr_) : RG C ops W acc (⟨some t, .binOp .neq 83 x y T2, ty, pos, after, gd⟩ :: rest) s K := by
  subst hs
  intro M hM hW hend
  have hx' := frc_ok hx
  have hy' := frc_ok hy
  rw [← hE.g, ← ev_g] at hx' hy'
  refine hM.step _ _ _ _ _ [] [] (effG_yes (o := ⟨some t, _, ty, pos, after, gd⟩) hc ((eff_qe hP T2 x y hx' hy' (dstB_ok hE hb)).weak ?_ (fun _ h => h))) (hk M hM hW hend)
  intro v hv
  simp only [opsT, Op.operands, List.mem_flatMap] at hv ⊢
  rcases List.mem_append.1 hv with hv | hv
  · exact ⟨x, by simp, hv⟩
  · exact ⟨y, by simp, hv⟩
end
end Go.Proofs.YtocfhkmdkdjinaaDoor

/- The reference of layer 19: Attrs, Same. Printed by wp.py. -/
namespace Go.Proofs.YtocfhkmdkdjinaaDoor
open Go Go.RowKit
set_option linter.unusedVariables false
set_option linter.unusedSimpArgs false
set_option maxRecDepth 100000
set_option maxHeartbeats 4000000
attribute [local irreducible] inR VC RG VCn sq inS lq nq jq Wk
theorem qe_val (x y : Int × List UInt8) : (!(decide (x.1 = y.1) && decide (x.2 = y.2))) = !(decide (x = y)) := by
  rw [← Bool.decide_and]
  congr 1
  exact decide_eq_decide.2 Prod.ext_iff.symm
theorem take_eq_s (L M : List (Int × List UInt8)) (hl : L.length = M.length) {k : Nat} (hk : k < L.length) (h : L.take k = M.take k) (he : L.getD k (0, []) = M.getD k (0, [])) : L.take (k + 1) = M.take (k + 1) := by
  rw [List.take_succ_eq_append_getElem hk, List.take_succ_eq_append_getElem (by omega), h, ← getD_at L hk, ← getD_at M (by omega), he]

namespace Urattrs_fc
theorem U : type_of% (@drop_rep UInt8) ∧ type_of% (@drop_rep D) ∧ type_of% (@List.take_zero UInt8) ∧ type_of% (@List.take_zero D) ∧ type_of% @q16_take ∧ type_of% @q16_len ∧ type_of% @q16_fold ∧ type_of% @q16_map ∧ type_of% @decL ∧ type_of% @decI ∧ type_of% @atS_len := ⟨(@drop_rep UInt8), (@drop_rep D), (@List.take_zero UInt8), (@List.take_zero D), @q16_take, @q16_len, @q16_fold, @q16_map, @decL, @decI, @atS_len⟩
end Urattrs_fc
open Urattrs_fc
theorem rattrs_fc (L M : List (Int × List UInt8)) (hL : L.length ≤ 1000000) : FC Tryd.prog GE 44 [.rof 2 L.length (fS L), .rof 2 M.length (fS M)] (.bool (decide (L = M))) none := by
  refine fi_ 26 [4] ti_eq gpE Tryd.func44 (fun C hE hm hP hrc hrn => ?_)
  refine A_ ?_
  refine C_ hE (fun hc1 => ?_) (fun hc1 => ?_) <;> (try (exfalso; omega))
  · have hne : ¬ L = M := fun e => hc1 (by rw [e])
    rw [decide_eq_false hne]
    refine A_ ?_
    exact ret_
  · have hl : L.length = M.length := by omega
    refine A_ ?_
    refine vl (fun k : Nat => ⟨[(0, .rof 2 L.length (fS L)), (1, .rof 2 M.length (fS M)), (4, .bool false), (5, .int .i64 k)], [], []⟩) (fun k => k ≤ L.length ∧ L.take k = M.take k) (fun k => L.length - k) 0 ?_ ⟨Nat.zero_le _, rfl⟩ ?_
    · exact wk_ hrc
    rintro k ⟨hk, he⟩
    by_cases hkl : k < L.length
    · have hts := take_eq_s L M hl hkl he
      refine A_ ?_
      refine C_ hE (fun hc2 => ?_) (fun hc2 => ?_) <;> (try (exfalso; omega))
      refine A_ ?_
      first | refine O_ ?_ | refine OD_ hm ?_
      refine G_ 8 hE ?_
      refine QE_ hE hP ?_
      rw [qe_val]
      by_cases hab : L.getD k (0, []) = M.getD k (0, [])
      · rw [decide_eq_true hab, Bool.not_true]
        refine G_ 200 hE ?_
        first | refine rz ?_ | refine ZD_ ?_
        refine A_ ?_
        refine lq_n (k + 1) ?_ ⟨by omega, hts hab⟩ (by omega)
        exact wk_ hrc
      · have hne : ¬ L = M := fun e => hab (by rw [e])
        rw [decide_eq_false hab, Bool.not_false, decide_eq_false hne]
        refine G_ 200 hE ?_
        first | refine rz ?_ | refine ZD_ ?_
        refine A_ ?_
        exact ret_
    · obtain rfl : k = L.length := by omega
      rw [List.take_length, hl, List.take_length] at he
      rw [decide_eq_true he]
      refine A_ ?_
      refine C_ hE (fun hc2 => ?_) (fun hc2 => ?_) <;> (try (exfalso; omega))
      refine A_ ?_
      exact ret_
theorem rsame_fc (c i c2 i2 : Int) (au bu : List UInt8) (L M : List (Int × List UInt8)) (hL : L.length ≤ 1000000) : FC Tryd.prog GE 34 [.agg [.int .i64 c, .int .i64 i, .u8 (gb au 0), .u8 (gb au 1), .u8 (gb au 2), .u8 (gb au 3), .u8 (gb au 4), .u8 (gb au 5), .u8 (gb au 6), .u8 (gb au 7), .u8 (gb au 8), .u8 (gb au 9), .u8 (gb au 10), .u8 (gb au 11), .u8 (gb au 12), .u8 (gb au 13), .u8 (gb au 14), .u8 (gb au 15), .rof 2 L.length (fS L)], .agg [.int .i64 c2, .int .i64 i2, .u8 (gb bu 0), .u8 (gb bu 1), .u8 (gb bu 2), .u8 (gb bu 3), .u8 (gb bu 4), .u8 (gb bu 5), .u8 (gb bu 6), .u8 (gb bu 7), .u8 (gb bu 8), .u8 (gb bu 9), .u8 (gb bu 10), .u8 (gb bu 11), .u8 (gb bu 12), .u8 (gb bu 13), .u8 (gb bu 14), .u8 (gb bu 15), .rof 2 M.length (fS M)]] (.bool (decide (c = c2 ∧ i = i2 ∧ q16 au = q16 bu ∧ L = M))) none := by
  refine fi_ 31 [4] ti_eq gpE Tryd.func34 (fun C hE hm hP hrc hrn => ?_)
  refine vs ?_
  refine R_ hE ?_
  refine sq_n ?_
  refine vs ?_
  first | refine O_ ?_ | refine OD_ hm ?_
  refine G_ 5 hE ?_
  by_cases h1 : c = c2
  · rw [decide_eq_true h1]
    refine G_ 1 hE ?_
    refine GT_ hE (rfl) ?_
    refine GT_ hE (rfl) ?_
    refine GT_ hE (rfl) ?_
    refine GT_ hE (rfl) ?_
    refine GT_ hE (rfl) ?_
    by_cases h2 : i = i2
    · rw [decide_eq_true h2]
      refine G_ 2 hE ?_
      refine GT_ hE (rfl) ?_
      refine GT_ hE (rfl) ?_
      refine GT_ hE (rfl) ?_
      refine GT_ hE (rfl) ?_
      refine GT_ hE (rfl) ?_
      by_cases h3 : q16 au = q16 bu
      · rw [decide_eq_true h3]
        refine G_ 2 hE ?_
        refine GT_ hE (rfl) ?_
        refine GT_ hE (rfl) ?_
        refine GT_ hE (rfl) ?_
        refine GT_ hE (rfl) ?_
        refine rct_ hE hP (rattrs_fc L M hL) Tryd.func44 (rfl) ?_
        rw [show decide (c = c2 ∧ i = i2 ∧ q16 au = q16 bu ∧ L = M) = decide (L = M) from decide_eq_decide.2 ⟨fun h => h.2.2.2, fun h => ⟨h1, h2, h3, h⟩⟩]
        refine G_ 200 hE ?_
        first | refine rz ?_ | refine ZD_ ?_
        refine A_ ?_
        exact ret_
      · rw [decide_eq_false h3, decide_eq_false (show ¬ (c = c2 ∧ i = i2 ∧ q16 au = q16 bu ∧ L = M) from fun h => h3 h.2.2.1)]
        refine G_ 2 hE ?_
        refine GF_ hE (rfl) ?_
        refine GF_ hE (rfl) ?_
        refine GF_ hE (rfl) ?_
        refine GF_ hE (rfl) ?_
        refine GI_ (.bool true) hE (rfl) ?_
        refine G_ 200 hE ?_
        first | refine rz ?_ | refine ZD_ ?_
        refine A_ ?_
        exact ret_
    · rw [decide_eq_false h2, decide_eq_false (show ¬ (c = c2 ∧ i = i2 ∧ q16 au = q16 bu ∧ L = M) from fun h => h2 h.2.1)]
      refine G_ 2 hE ?_
      refine GF_ hE (rfl) ?_
      refine GF_ hE (rfl) ?_
      refine GF_ hE (rfl) ?_
      refine GF_ hE (rfl) ?_
      refine GI_ (.bool true) hE (rfl) ?_
      refine G_ 2 hE ?_
      refine GF_ hE (rfl) ?_
      refine GF_ hE (rfl) ?_
      refine GF_ hE (rfl) ?_
      refine GF_ hE (rfl) ?_
      refine GI_ (.bool true) hE (rfl) ?_
      refine G_ 200 hE ?_
      first | refine rz ?_ | refine ZD_ ?_
      refine A_ ?_
      exact ret_
  · rw [decide_eq_false h1, decide_eq_false (show ¬ (c = c2 ∧ i = i2 ∧ q16 au = q16 bu ∧ L = M) from fun h => h1 h.1)]
    refine G_ 1 hE ?_
    refine GF_ hE (rfl) ?_
    refine GF_ hE (rfl) ?_
    refine GF_ hE (rfl) ?_
    refine GF_ hE (rfl) ?_
    refine GI_ (.bool true) hE (rfl) ?_
    refine G_ 2 hE ?_
    refine GF_ hE (rfl) ?_
    refine GF_ hE (rfl) ?_
    refine GF_ hE (rfl) ?_
    refine GF_ hE (rfl) ?_
    refine GI_ (.bool true) hE (rfl) ?_
    refine G_ 2 hE ?_
    refine GF_ hE (rfl) ?_
    refine GF_ hE (rfl) ?_
    refine GF_ hE (rfl) ?_
    refine GF_ hE (rfl) ?_
    refine GI_ (.bool true) hE (rfl) ?_
    refine G_ 200 hE ?_
    first | refine rz ?_ | refine ZD_ ?_
    refine A_ ?_
    exact ret_
end Go.Proofs.YtocfhkmdkdjinaaDoor

/- append of elements that stand cell by cell: their row is read whole. Over any program. -/
namespace Go.Proofs.YtocfhkmdkdjinaaDoor
open Go Go.RowKit
set_option linter.unusedVariables false
set_option linter.unusedSimpArgs false
theorem rof_rosA {w : World} {S : Nat → Prop} {ρ : Nat → Pl} {H : Nat → Sh} {s n : Nat} {f : Nat → Nat → D} {cs : List D} {v : Value} (hs : 0 < s) (hl : cs.length = n * s) (h : ∀ i j, i < n → j < s → cs[i * s + j]? = some (f i j)) (hr : RV w S ρ H (.rof s n f) v []) : RV w S ρ H (.ros s n cs) v [] := by
  cases hr with
  | rof _ _ _ A cap b off us hn hm hp hA hc hr =>
    have key : ∀ (i : Nat) (c : D), cs[i]? = some c → 0 < n ∧ i / s < n ∧ i % s < s ∧ i / s * s + i % s = i ∧ c = f (i / s) (i % s) := fun i c hi => by
      have hlt : i < n * s := by rw [← hl]; exact (List.getElem?_eq_some_iff.1 hi).1
      have h1 : i / s < n := Nat.div_lt_of_lt_mul (by rw [Nat.mul_comm]; exact hlt)
      have h2 : i % s < s := Nat.mod_lt _ hs
      have h3 : i / s * s + i % s = i := by rw [Nat.mul_comm]; exact Nat.div_add_mod i s
      have h4 := h _ _ h1 h2
      rw [h3, hi] at h4
      exact ⟨Nat.lt_of_le_of_lt (Nat.zero_le _) h1, h1, h2, h3, by injection h4⟩
    refine .ros s n cs A cap b off (fun i => us (i / s) (i % s)) hl hn hm hA (fun h0 i c hi => ?_) (fun i c hi => ?_)
    · obtain ⟨-, h1, h2, h3, -⟩ := key i c hi
      have := hc _ _ h1 h2
      rwa [h3] at this
    · obtain ⟨-, h1, h2, -, rfl⟩ := key i c hi
      exact hr _ _ h1 h2
theorem cvS {L : List (Int × List UInt8)} {w : World} {S : Nat → Prop} {ρ : Nat → Pl} {H : Nat → Sh} {v : Value} : RV w S ρ H (.rof 2 L.length (fS L)) v [] → RV w S ρ H (.ros 2 L.length (atS L)) v [] :=
  rof_rosA (by omega) (atS_len L) (fun i j hi hj => (atS_get L i j hi hj).1)
theorem cvSt {L : List (Int × List UInt8)} {k : Nat} (hk : k ≤ L.length) {w : World} {S : Nat → Prop} {ρ : Nat → Pl} {H : Nat → Sh} {v : Value} : RV w S ρ H (.rof 2 k (fS L)) v [] → RV w S ρ H (.ros 2 k (atS (L.take k))) v [] :=
  rof_rosA (by omega) (by rw [atS_len, List.length_take]; omega) (fun i j hi hj => by
    have h1 := (atS_get (L.take k) i j (by rw [List.length_take]; omega) hj).1
    rw [h1]
    congr 1
    have e : (L.take k).getD i (0, []) = L.getD i (0, []) := by rw [List.getD_eq_getElem?_getD, List.getD_eq_getElem?_getD, List.getElem?_take_of_lt hi]
    unfold fS
    rw [e])
theorem cvSd {L : List (Int × List UInt8)} {k n : Nat} (hn : n = L.length - k) {f : Nat → Nat → D} (hf : ∀ i j, f i j = fS L (k + i) j) {w : World} {S : Nat → Prop} {ρ : Nat → Pl} {H : Nat → Sh} {v : Value} : RV w S ρ H (.rof 2 n f) v [] → RV w S ρ H (.ros 2 n (atS (L.drop k))) v [] :=
  rof_rosA (by omega) (by rw [atS_len, List.length_drop, hn]) (fun i j hi hj => by
    have h1 := (atS_get (L.drop k) i j (by rw [List.length_drop]; omega) hj).1
    rw [h1, hf]
    congr 1
    have e : (L.drop k).getD i (0, []) = L.getD (k + i) (0, []) := by rw [List.getD_eq_getElem?_getD, List.getD_eq_getElem?_getD, List.getElem?_drop]
    unfold fS
    rw [e])
section
variable {C : Ctx} {s : St} {ρ : Nat → Pl} {S : Nat → Prop} {Φ : Nat → List Nat} {w : World} {t : Nat} {pos : String} {after : Array Edge} {gd : Option (Nat × Bool)} {ty : TypeId}
theorem eff_aoc {dst : Option Tmp} (T T2 : TypeId) (x y : Operand) (dy : D) (hcv : ∀ {w : World} {S : Nat → Prop} {ρ : Nat → Pl} {H : Nat → Sh} {v : Value}, RV w S ρ H (ev C s y) v [] → RV w S ρ H dy v []) {g : Prop} {o esz : Nat} {c : Cont} {n : Nat} {R : List Nat} (e : apoD (tiOf C.P) s.ob T T2 (ev C s x) dy = some (g, o, esz, c, n, R)) (hg : g) (hd : dstOk C.n dst) :
    Eff C ⟨dst, .call { callee := .builtin .append, args := #[x, y], argTypes := #[T, T2] }, ty, pos, after, gd⟩ s (.sl o ((s.ob o).sh.gen + 1) 0 n) [(o, nob s o esz c)] (opT x ++ opT y) R :=
  eff_lay hd fun σ hT hR a w ρ S Φ h1 h2 => by
    obtain ⟨q1, q2⟩ := opT2 (C := C) hT
    rw [← q1] at e
    obtain ⟨e', ho⟩ := apoD_loc e hR
    have hy := ev_rv h1 h2 y
    rw [q2] at hy
    have h := apo_ok (ty := ty) h1 e' hg (ev_rv h1 h2 x) (hcv hy)
    rw [nob_same (hR o ho), ← gen_same (hR o ho)]
    exact ⟨_, by simp [execOp, resolve, invoke, builtin], h⟩
variable {Ti : Nat → TI} {G : Nat → Option D} {n : Nat} {ops : Array Oper} {acc acc' : Acc} {rest rest' : List Oper} {s1 s2 : St} {K : Acc → St → Prop} {W : St → St → Prop}
/-- append of such elements in a region. -/
theorem AOC_ {sl : List (Nat × D)} {hp : List (Nat × Ob)} {dk : List Nat} {t : Nat} {T T2 : TypeId} {x y : Operand} {ty : TypeId} {pos : String} {after : Array Edge} {gd : Option (Nat × Bool)} {g : Prop} {dx dy dz : D} {o esz k γ : Nat} {c : Cont} {R : List Nat} (hE : Env C Ti G n)
    (hcv : ∀ {w : World} {S : Nat → Prop} {ρ : Nat → Pl} {H : Nat → Sh} {v : Value}, RV w S ρ H dy v [] → RV w S ρ H dz v [])
    (hk : RG C ops W (([o], R) :: acc) rest s2 K)
    (hx : frc (evg G ⟨sl, hp, dk⟩ x) = some dx := by exact rfl) (hy : frc (evg G ⟨sl, hp, dk⟩ y) = some dy := by exact rfl)
    (hc : gcO ops ⟨sl, hp, dk⟩ gd = .yes := by exact rfl) (hb : dstB n (some t) = true := by exact rfl) (e : apoD Ti (⟨sl, hp, dk⟩ : St).ob T T2 dx dz = some (g, o, esz, c, k, R) := by exact rfl) (hg : g := by exact sg_)
    (hγ : ((⟨sl, hp, dk⟩ : St).ob o).sh.gen + 1 = γ := by exact nc_)
    (hs : (⟨(t, .sl o γ 0 k) :: sl, (o, ⟨⟨γ, esz, c.len⟩, some c⟩) :: hp, dk⟩ : St) = s2 := by exact nr_) : RG C ops W acc (⟨some t, .call { callee := .builtin .append, args := #[x, y], argTypes := #[T, T2] }, ty, pos, after, gd⟩ :: rest) ⟨sl, hp, dk⟩ K := by
  subst hγ
  subst hs
  intro M hM hW hend
  have hx' := frc_ok hx
  have hy' := frc_ok hy
  rw [← hE.g, ← ev_g] at hx' hy'
  rw [← hE.ti] at e
  rw [← hx'] at e
  refine hM.step _ _ _ _ _ [(o, nob ⟨sl, hp, dk⟩ o esz c)] R (effG_yes (o := ⟨some t, _, ty, pos, after, gd⟩) hc ((eff_aoc T T2 x y dz (by rw [hy']; exact hcv) e hg (dstB_ok hE hb)).weak ?_ (fun _ h => h))) (hk M hM hW hend)
  intro z hz
  simp only [opsT, Op.operands, Call.operands, List.mem_flatMap] at hz ⊢
  rcases List.mem_append.1 hz with hz | hz
  · exact ⟨x, by simp, hz⟩
  · exact ⟨y, by simp, hz⟩
end
end Go.Proofs.YtocfhkmdkdjinaaDoor

/- copy of bytes onto cells of an object that holds other cells too. Over any program. -/
namespace Go.Proofs.YtocfhkmdkdjinaaDoor
open Go Go.RowKit
set_option linter.unusedVariables false
set_option linter.unusedSimpArgs false
def cpcD (Ti : Nat → TI) (O : Nat → Ob) (T T2 : TypeId) (x y : D) : Option (Prop × Nat × List D × Nat × List Nat) :=
  match (Ti T).ty, bsrc Ti O T2 y, x with
  | .slice e, some (gy, yl, Ry), .sl o g off len =>
    match (O o).ct with
    | some (.cells cs) => some ((gy ∧ g = (O o).sh.gen ∧ (O o).sh.esz = 1 ∧ (Ti e).sz = 1 ∧ 0 < len ∧ len ≤ yl.length), o, cs.take off ++ (yl.take len).map D.u8 ++ cs.drop (off + len), len, o :: Ry)
    | _ => none
  | _, _, _ => none
section
variable {C : Ctx} {s : St} {ρ : Nat → Pl} {S : Nat → Prop} {Φ : Nat → List Nat} {w : World} {pos : String} {after : Array Edge} {gd : Option (Nat × Bool)} {ty : TypeId}
theorem cpc_ok (h : RepW C s ρ S Φ w) {T T2 ty : TypeId} {x y : D} {g : Prop} {o n : Nat} {cs : List D} {R : List Nat} (e : cpcD (tiOf C.P) s.ob T T2 x y = some (g, o, cs, n, R)) (hg : g) {vx vy : Value} (hx : RV w S ρ s.sh x vx []) (hy : RV w S ρ s.sh y vy []) :
    Outc C s S ρ w ((Builtin.copy_ #[T, T2] ty #[vx, vy]).run C.P w) (s.lay o ⟨s.sh o, some (.cells cs)⟩) (.int .i64 n) := by
  unfold cpcD at e
  split at e
  · rename_i el gy yl Ry o' g' off len ht hb
    split at e
    · rename_i l ho
      injection e with e; injection e with e1 e2; injection e2 with e2 e3; injection e3 with e3 e4; injection e4 with e4 e5; subst e1; subst e2; subst e3; subst e4
      obtain ⟨g1, gg, ge, g3, g4, g5⟩ := hg
      obtain ⟨hsrc, hn⟩ := bsrc_ok h hb g1 hy
      have hes : (s.sh o').esz = 1 := ge
      have hsl := inv_sl hx gg
      obtain ⟨A, cap, rfl, q1, q2, q3, q4⟩ := id hsl
      have hcl : (s.sh o').clen = l.length := (h.ob o' _ ho).1
      rw [hes] at q3 q4
      have hmin : Nat.min yl.length len = len := Nat.min_eq_right g5
      have hcells := hsrc.cells len w (by omega) rfl
      rw [Nat.mul_one] at hcells
      have hyt : (u8s yl).take len = u8s (yl.take len) := by simp [u8s, List.map_take]
      rw [hyt] at hcells
      have hlt : (yl.take len).length = len := by rw [List.length_take]; omega
      have hl0 := hsrc.len w
      obtain ⟨i, hi, hi2⟩ := sz_ne (P := C.P) (t := el) (by omega)
      have hso : (sizeOf el).run C.P w = .ok 1 w := run_sizeOf hi (by omega)
      rcases q4 with ⟨q4, _⟩ | ⟨rfl, q5⟩
      · omega
      · obtain ⟨w', Φ', k1, k2, k3⟩ := splice_ok h ho off (ds := (yl.take len).map D.u8) (vs := u8s (yl.take len)) (PR.bytes _) (by
            show ((yl.take len).map D.u8).all D.sc = true
            exact List.all_eq_true.2 fun d hd => by obtain ⟨x, -, rfl⟩ := List.mem_map.1 hd; rfl) (by simp [Cont.len]; omega) (by simp; omega) C.P
        simp only [Cont.splice, List.length_map, hlt] at k2 k3
        refine ⟨.int .i64 (len : Nat), w', ρ, Φ', ?_, k2, k3, .int _ _⟩
        simp only [Builtin.copy_, Sem.run_bind, run_underlying (ti_slice ht), Result.andThen_ok, hl0, hso, hmin, hcells, k1, List.getElem?_toArray, List.getElem?_cons_zero, List.getElem?_cons_succ, Sem.run_pure, goInt]
    · cases e
  · cases e
theorem cpcD_loc {P : Program} {O O' : Nat → Ob} {T T2 : TypeId} {x y : D} {g : Prop} {o n : Nat} {cs : List D} {R : List Nat} (e : cpcD (tiOf P) O T T2 x y = some (g, o, cs, n, R)) (h : ∀ o ∈ R, O' o = O o) : cpcD (tiOf P) O' T T2 x y = some (g, o, cs, n, R) ∧ o ∈ R := by
  unfold cpcD at *
  split at e
  · rename_i el gy yl Ry o' g' off len ht hb
    split at e
    · rename_i l ho
      injection e with e; injection e with e1 e2; injection e2 with e2 e3; injection e3 with e3 e4; injection e4 with e4 e5
      subst e1; subst e2; subst e3; subst e4; subst e5
      have hb' := bsrc_loc (O' := O') hb (fun o ho => h o (by simp [ho]))
      simp only [ht, hb', h o' (by simp), ho]
      exact ⟨trivial, List.mem_cons_self⟩
    · cases e
  · cases e
theorem eff_cpc {dst : Option Tmp} (T T2 : TypeId) (x y : Operand) {g : Prop} {o n : Nat} {cs : List D} {R : List Nat} (e : cpcD (tiOf C.P) s.ob T T2 (ev C s x) (ev C s y) = some (g, o, cs, n, R)) (hg : g) (hd : dstOk C.n dst) :
    Eff C ⟨dst, .call { callee := .builtin .copy, args := #[x, y], argTypes := #[T, T2] }, ty, pos, after, gd⟩ s (.int .i64 n) [(o, ⟨(s.ob o).sh, some (.cells cs)⟩)] (opT x ++ opT y) R :=
  eff_lay hd fun σ hT hR a w ρ S Φ h1 h2 => by
    obtain ⟨q1, q2⟩ := opT2 (C := C) hT
    rw [← q1, ← q2] at e
    obtain ⟨e', ho⟩ := cpcD_loc e hR
    have h := cpc_ok (ty := ty) h1 e' hg (ev_rv h1 h2 x) (ev_rv h1 h2 y)
    have hsh : (s.ob o).sh = σ.sh o := by unfold St.sh; rw [hR o ho]
    rw [hsh]
    exact ⟨_, by simp [execOp, resolve, invoke, builtin], h⟩
variable {Ti : Nat → TI} {G : Nat → Option D} {n : Nat} {ops : Array Oper} {acc acc' : Acc} {rest rest' : List Oper} {s1 s2 : St} {K : Acc → St → Prop} {W : St → St → Prop}
/-- That operation in a region. -/
theorem CPC_ {sl : List (Nat × D)} {hp : List (Nat × Ob)} {dk : List Nat} {t : Nat} {T T2 : TypeId} {x y : Operand} {ty : TypeId} {pos : String} {after : Array Edge} {gd : Option (Nat × Bool)} {g : Prop} {dx dy : D} {o k : Nat} {cs : List D} {R : List Nat} (hE : Env C Ti G n)
    (hk : RG C ops W (([o], R) :: acc) rest s2 K)
    (hx : frc (evg G ⟨sl, hp, dk⟩ x) = some dx := by exact rfl) (hy : frc (evg G ⟨sl, hp, dk⟩ y) = some dy := by exact rfl)
    (hc : gcO ops ⟨sl, hp, dk⟩ gd = .yes := by exact rfl) (hb : dstB n (some t) = true := by exact rfl) (e : cpcD Ti (⟨sl, hp, dk⟩ : St).ob T T2 dx dy = some (g, o, cs, k, R) := by exact rfl) (hg : g := by exact sg_)
    (hs : (⟨(t, .int .i64 k) :: sl, (o, ⟨((⟨sl, hp, dk⟩ : St).ob o).sh, some (.cells cs)⟩) :: hp, dk⟩ : St) = s2 := by exact nr_) : RG C ops W acc (⟨some t, .call { callee := .builtin .copy, args := #[x, y], argTypes := #[T, T2] }, ty, pos, after, gd⟩ :: rest) ⟨sl, hp, dk⟩ K := by
  subst hs
  intro M hM hW hend
  have hx' := frc_ok hx
  have hy' := frc_ok hy
  rw [← hE.g, ← ev_g] at hx' hy'
  rw [← hE.ti] at e
  rw [← hx', ← hy'] at e
  refine hM.step _ _ _ _ _ [(o, ⟨((⟨sl, hp, dk⟩ : St).ob o).sh, some (.cells cs)⟩)] R (effG_yes (o := ⟨some t, _, ty, pos, after, gd⟩) hc ((eff_cpc T T2 x y e hg (dstB_ok hE hb)).weak ?_ (fun _ h => h))) (hk M hM hW hend)
  intro z hz
  simp only [opsT, Op.operands, Call.operands, List.mem_flatMap] at hz ⊢
  rcases List.mem_append.1 hz with hz | hz
  · exact ⟨x, by simp, hz⟩
  · exact ⟨y, by simp, hz⟩
end
end Go.Proofs.YtocfhkmdkdjinaaDoor

/- The reference of layer 19: Read. Printed by wp.py. -/
namespace Go.Proofs.YtocfhkmdkdjinaaDoor
open Go Go.RowKit
set_option linter.unusedVariables false
set_option linter.unusedSimpArgs false
set_option maxRecDepth 100000
set_option maxHeartbeats 4000000
attribute [local irreducible] inR VC RG VCn sq inS lq nq jq Wk
attribute [local simp] nmL_atS atS_fr atS_nil
attribute [local irreducible] bodyA wrS wrO idxF idxM z16 seV slV rpV rdO rdS prs rdP prC

namespace Urread_fc
theorem U : type_of% (@drop_rep UInt8) ∧ type_of% (@drop_rep D) ∧ type_of% (@List.take_zero UInt8) ∧ type_of% (@List.take_zero D) ∧ type_of% @q16_take ∧ type_of% @q16_len ∧ type_of% @q16_fold ∧ type_of% @q16_map ∧ type_of% @decL ∧ type_of% @decI ∧ type_of% @atS_len := ⟨(@drop_rep UInt8), (@drop_rep D), (@List.take_zero UInt8), (@List.take_zero D), @q16_take, @q16_len, @q16_fold, @q16_map, @decL, @decI, @atS_len⟩
end Urread_fc
open Urread_fc
theorem rread_fc (l : List UInt8) (c i : Int) (au : List UInt8) (L : List (Int × List UInt8)) (e : Int) (h : rdP l = (c, i, q16 au, L, e)) : FC Tryd.prog GE 37 [.str l] (.tup [.agg [.int .i64 c, .int .i64 i, .u8 (gb au 0), .u8 (gb au 1), .u8 (gb au 2), .u8 (gb au 3), .u8 (gb au 4), .u8 (gb au 5), .u8 (gb au 6), .u8 (gb au 7), .u8 (gb au 8), .u8 (gb au 9), .u8 (gb au 10), .u8 (gb au 11), .u8 (gb au 12), .u8 (gb au 13), .u8 (gb au 14), .u8 (gb au 15), .owns 2 L.length (atS L)], .int .i64 e]) none := by
  refine fict_ 93 ti_eq gpE Tryd.func37 (fun C hE hm hP hrc hrn => ?_) (had := (by exact adl2_))
  refine vs ?_
  refine R_ hE ?_
  refine sq_n ?_
  refine vs ?_
  refine vs ?_
  by_cases hl1 : (l.length : Int) < 20
  · skip
    have hn : rdS l = none := rdS_no (by cases ho : rdO l with | false => rfl | true => exact absurd ((rdO_iff l).1 ho) (by omega))
    rw [rdP_none hn] at h
    simp only [Prod.mk.injEq] at h
    obtain ⟨rfl, rfl, hz, rfl, rfl⟩ := h
    simp only [z16_q hz, Nat.reduceLT]
    first | refine O_ ?_ | refine OD_ hm ?_
    refine G_ 3 hE ?_
    rw [decide_eq_true hl1]
    refine G_ 1 hE ?_
    refine GF_ hE (rfl) ?_
    refine GF_ hE (rfl) ?_
    refine GI_ (.bool true) hE (rfl) ?_
    refine G_ 2 hE ?_
    refine GF_ hE (rfl) ?_
    refine GF_ hE (rfl) ?_
    refine GF_ hE (rfl) ?_
    refine GF_ hE (rfl) ?_
    refine GI_ (.bool true) hE (rfl) ?_
    refine G_ 2 hE ?_
    refine GF_ hE (rfl) ?_
    refine GF_ hE (rfl) ?_
    refine GF_ hE (rfl) ?_
    refine GF_ hE (rfl) ?_
    refine GF_ hE (rfl) ?_
    refine GF_ hE (rfl) ?_
    refine GF_ hE (rfl) ?_
    refine GF_ hE (rfl) ?_
    refine GF_ hE (rfl) ?_
    refine GF_ hE (rfl) ?_
    refine GI_ (.bool true) hE (rfl) ?_
    refine G_ 200 hE ?_
    first | refine rz ?_ | refine ZD_ ?_
    refine sq_n ?_
    refine vT hE rfl (rfl) ?_
    refine vs ?_
    first | refine O_ ?_ | refine OD_ hm ?_
    refine G_ 200 hE ?_
    first | refine rz ?_ | refine ZD_ ?_
    refine sq_n ?_
    refine VC.weak ?_ (knilcs 2 18 2 (by exact rfl) (by exact rfl) (by exact rfl))
    refine wv_ (sos_ 2 18 970 0) ?_
    refine A_ ?_
    exact retct_ (h := by exact ma3_)
  by_cases hl2 : (l.length : Int) > 4096
  · skip
    have hn : rdS l = none := rdS_no (by cases ho : rdO l with | false => rfl | true => exact absurd ((rdO_iff l).1 ho) (by omega))
    rw [rdP_none hn] at h
    simp only [Prod.mk.injEq] at h
    obtain ⟨rfl, rfl, hz, rfl, rfl⟩ := h
    simp only [z16_q hz, Nat.reduceLT]
    first | refine O_ ?_ | refine OD_ hm ?_
    refine G_ 3 hE ?_
    rw [decide_eq_false hl1]
    refine G_ 1 hE ?_
    refine GT_ hE (rfl) ?_
    refine GT_ hE (rfl) ?_
    refine GT_ hE (rfl) ?_
    rw [decide_eq_true hl2]
    refine G_ 2 hE ?_
    refine GF_ hE (rfl) ?_
    refine GF_ hE (rfl) ?_
    refine GF_ hE (rfl) ?_
    refine GF_ hE (rfl) ?_
    refine GI_ (.bool true) hE (rfl) ?_
    refine G_ 2 hE ?_
    refine GF_ hE (rfl) ?_
    refine GF_ hE (rfl) ?_
    refine GF_ hE (rfl) ?_
    refine GF_ hE (rfl) ?_
    refine GF_ hE (rfl) ?_
    refine GF_ hE (rfl) ?_
    refine GF_ hE (rfl) ?_
    refine GF_ hE (rfl) ?_
    refine GF_ hE (rfl) ?_
    refine GF_ hE (rfl) ?_
    refine GI_ (.bool true) hE (rfl) ?_
    refine G_ 200 hE ?_
    first | refine rz ?_ | refine ZD_ ?_
    refine sq_n ?_
    refine vT hE rfl (rfl) ?_
    refine vs ?_
    first | refine O_ ?_ | refine OD_ hm ?_
    refine G_ 200 hE ?_
    first | refine rz ?_ | refine ZD_ ?_
    refine sq_n ?_
    refine VC.weak ?_ (knilcs 2 18 2 (by exact rfl) (by exact rfl) (by exact rfl))
    refine wv_ (sos_ 2 18 970 0) ?_
    refine A_ ?_
    exact retct_ (h := by exact ma3_)
  first | refine O_ ?_ | refine OD_ hm ?_
  refine G_ 3 hE ?_
  rw [decide_eq_false hl1]
  refine G_ 1 hE ?_
  refine GT_ hE (rfl) ?_
  refine GT_ hE (rfl) ?_
  refine GT_ hE (rfl) ?_
  rw [decide_eq_false hl2]
  refine G_ 2 hE ?_
  refine GT_ hE (rfl) ?_
  refine GT_ hE (rfl) ?_
  refine GT_ hE (rfl) ?_
  refine rct_ hE hP (rcode_fc (gb l 0).toNat) Tryd.func84 (rfl) ?_
  cases hcd : isCd (gb l 0).toNat
  · skip
    have hn : rdS l = none := rdS_no (by cases ho : rdO l with | false => rfl | true => exact absurd ((rdO_iff l).1 ho) (by simp [hcd]))
    rw [rdP_none hn] at h
    simp only [Prod.mk.injEq] at h
    obtain ⟨rfl, rfl, hz, rfl, rfl⟩ := h
    simp only [z16_q hz, Nat.reduceLT]
    refine GT_ hE (rfl) ?_
    refine G_ 2 hE ?_
    refine GF_ hE (rfl) ?_
    refine GF_ hE (rfl) ?_
    refine GF_ hE (rfl) ?_
    refine GF_ hE (rfl) ?_
    refine GF_ hE (rfl) ?_
    refine GF_ hE (rfl) ?_
    refine GF_ hE (rfl) ?_
    refine GF_ hE (rfl) ?_
    refine GF_ hE (rfl) ?_
    refine GF_ hE (rfl) ?_
    refine GI_ (.bool true) hE (rfl) ?_
    refine G_ 200 hE ?_
    first | refine rz ?_ | refine ZD_ ?_
    refine sq_n ?_
    refine vT hE rfl (rfl) ?_
    refine vs ?_
    first | refine O_ ?_ | refine OD_ hm ?_
    refine G_ 200 hE ?_
    first | refine rz ?_ | refine ZD_ ?_
    refine sq_n ?_
    refine VC.weak ?_ (knilcs 2 18 2 (by exact rfl) (by exact rfl) (by exact rfl))
    refine wv_ (sos_ 2 18 970 0) ?_
    refine A_ ?_
    exact retct_ (h := by exact ma3_)
  refine GT_ hE (rfl) ?_
  refine G_ 2 hE ?_
  have hb_l2 := UInt8.toNat_lt (gb l 2); have hb_l3 := UInt8.toNat_lt (gb l 3)
  refine GT_ hE (rfl) ?_
  refine GT_ hE (rfl) ?_
  refine GT_ hE (rfl) ?_
  refine GT_ hE (rfl) ?_
  refine GT_ hE (rfl) ?_
  refine GT_ hE (rfl) ?_
  refine GT_ hE (rfl) ?_
  --Q
  refine GT_ hE (rfl) ?_
  refine GT_ hE (rfl) ?_
  refine GT_ hE (rfl) ?_
  refine GT_ hE (rfl) ?_
  by_cases hs : (gb l 2).toNat * 256 + (gb l 3).toNat = l.length
  · skip
    rw [decide_eq_true (show ((gb l 2).toNat : Int) * 256 + ((gb l 3).toNat : Int) = (l.length : Int) from by omega), Bool.not_true]
    refine G_ 200 hE ?_
    first | refine rz ?_ | refine ZD_ ?_
    refine A_ ?_
    first | refine O_ ?_ | refine OD_ hm ?_
    refine G_ 4 hE ?_
    rw [d420 l (by omega)]
    refine CPC_ hE ?_
    refine G_ 200 hE ?_
    first | refine rz ?_ | refine ZD_ ?_
    refine sq_n ?_
    refine A_ ?_
    have ho : rdO l = true := (rdO_iff l).2 ⟨by omega, by omega, hcd, hs⟩
    have hrs := rdS_yes ho
    refine VC.weak ?_ (knilcs 4 18 2 (by exact rfl) (by exact rfl) (by exact rfl))
    refine wv_ (sos_ 4 18 960 0) ?_
    refine vl (fun a : List (Int × List UInt8) × List UInt8 => ⟨[(0, .str a.2), (2, .ptr 2 1 0), (3, .int .i64 0), (4, .ptr 4 1 0)], [(4, ⟨⟨1, 1, 19⟩, some (.cells [.int .i64 (gb l 0).toNat, .int .i64 (gb l 1).toNat, .u8 (gb (l.drop 4) 0), .u8 (gb (l.drop 4) 1), .u8 (gb (l.drop 4) 2), .u8 (gb (l.drop 4) 3), .u8 (gb (l.drop 4) 4), .u8 (gb (l.drop 4) 5), .u8 (gb (l.drop 4) 6), .u8 (gb (l.drop 4) 7), .u8 (gb (l.drop 4) 8), .u8 (gb (l.drop 4) 9), .u8 (gb (l.drop 4) 10), .u8 (gb (l.drop 4) 11), .u8 (gb (l.drop 4) 12), .u8 (gb (l.drop 4) 13), .u8 (gb (l.drop 4) 14), .u8 (gb (l.drop 4) 15), .sl 960 (1 + a.1.length) 0 a.1.length])⟩), (960, ⟨⟨1 + a.1.length, 2, a.1.length * 2⟩, some (.cells (atS a.1))⟩), (2, ⟨⟨1, 1, 19⟩, some (.cells [.int .i64 0, .int .i64 0, .u8 0, .u8 0, .u8 0, .u8 0, .u8 0, .u8 0, .u8 0, .u8 0, .u8 0, .u8 0, .u8 0, .u8 0, .u8 0, .u8 0, .u8 0, .u8 0, .nilS])⟩)], []⟩) (fun a => a.1.length * 2 + a.2.length ≤ 4096 ∧ prs (l.drop 20) = (prs a.2).map (a.1 ++ ·)) (fun a => a.2.length) ([], l.drop 20) ?_ ⟨by simp; omega, by simp⟩ ?_
    · exact wk_ hrc
    rintro ⟨M, r⟩ ⟨hsz, hp⟩
    simp only at hsz hp ⊢
    refine A_ ?_
    by_cases hr0 : r.length = 0
    · skip
      have hn : rdS l = some M := by rw [hrs, hp, prs_nil hr0]; simp
      rw [rdP_some hn] at h
      simp only [Prod.mk.injEq] at h
      obtain ⟨rfl, rfl, hq, rfl, rfl⟩ := h
      simp only [q16_inj hq, Nat.reduceLT]
      refine C_ hE (fun hc => ?_) (fun hc => ?_) <;> (try (exfalso; omega))
      refine A_ ?_
      exact retct_ (h := by exact ma3_)
    refine C_ hE (fun hc => ?_) (fun hc => ?_) <;> (try (exfalso; omega))
    refine A_ ?_
    refine C_ hE (fun hf => ?_) (fun hf => ?_) <;> (try (exfalso; omega))
    · skip
      have hpf : prC r = false := by
        cases hq : prC r
        · rfl
        · exfalso
          obtain ⟨q1, q2, q3, q4⟩ := prC_of hq
          rcases hf with ((h | h) | h) | h
          · omega
          · exact q2 h
          · omega
          · omega
      have hn : rdS l = none := by rw [hrs, hp, prs_none hr0 hpf]; rfl
      rw [rdP_none hn] at h
      simp only [Prod.mk.injEq] at h
      obtain ⟨rfl, rfl, hz, rfl, rfl⟩ := h
      simp only [z16_q hz, Nat.reduceLT]
      refine vs ?_
      first | refine O_ ?_ | refine OD_ hm ?_
      refine G_ 200 hE ?_
      first | refine rz ?_ | refine ZD_ ?_
      refine sq_n ?_
      refine VC.weak ?_ (knilcs 2 18 2 (by exact rfl) (by exact rfl) (by exact rfl))
      refine wv_ (sos_ 2 18 970 0) ?_
      refine A_ ?_
      exact retct_ (h := by exact ma3_)
    obtain ⟨⟨⟨hr2, hr1⟩, hr3⟩, hr4⟩ := hf
    have hr3n : 2 ≤ (gb r 1).toNat := by omega
    have hpc : prC r = true := by unfold prC; simp [hr1]; omega
    have hpr := prs_some hpc
    refine A_ ?_
    first | refine O_ ?_ | refine OD_ hm ?_
    refine G_ 8 hE ?_
    obtain ⟨V, hV⟩ : ∃ V, V = List.drop 2 (List.take (gb r 1).toNat r) := ⟨_, rfl⟩
    have hVl : V.length ≤ 4096 := by rw [hV, List.length_drop, List.length_take]; omega
    rw [← hV]
    have hpa : prA r = (((gb r 0).toNat : Int), V) := by rw [hV]; rfl
    rw [hpa] at hpr
    refine G_ 2 hE ?_
    refine AO_ hE ?_
    refine G_ 200 hE ?_
    first | refine rz ?_ | refine ZD_ ?_
    refine A_ ?_
    obtain ⟨M', hM'⟩ : ∃ M', M' = M ++ [(((gb r 0).toNat : Int), V)] := ⟨_, rfl⟩
    have hMl : M'.length = M.length + 1 := by rw [hM']; simp
    rw [atS_snoc, ← hM', show M.length * 2 + 2 = M'.length * 2 by omega, show 1 + M.length + 1 = 1 + M'.length by omega, ← hMl]
    refine lq_n (M', r.drop (gb r 1).toNat) ?_ ⟨by simp only [List.length_drop]; omega, ?_⟩ (by simp only [List.length_drop]; omega)
    · exact wk_ hrc
    · simp only
      rw [hp, hpr, hM', Option.map_map]
      congr 1
      funext x
      simp
  · skip
    have hn : rdS l = none := rdS_no (by cases ho : rdO l with | false => rfl | true => exact absurd ((rdO_iff l).1 ho) (by omega))
    rw [rdP_none hn] at h
    simp only [Prod.mk.injEq] at h
    obtain ⟨rfl, rfl, hz, rfl, rfl⟩ := h
    simp only [z16_q hz, Nat.reduceLT]
    rw [decide_eq_false (show ¬ ((gb l 2).toNat : Int) * 256 + ((gb l 3).toNat : Int) = (l.length : Int) from by omega), Bool.not_false]
    refine G_ 200 hE ?_
    first | refine rz ?_ | refine ZD_ ?_
    refine sq_n ?_
    refine vT hE rfl (rfl) ?_
    refine vs ?_
    first | refine O_ ?_ | refine OD_ hm ?_
    refine G_ 200 hE ?_
    first | refine rz ?_ | refine ZD_ ?_
    refine sq_n ?_
    refine VC.weak ?_ (knilcs 2 18 2 (by exact rfl) (by exact rfl) (by exact rfl))
    refine wv_ (sos_ 2 18 970 0) ?_
    refine A_ ?_
    exact retct_ (h := by exact ma3_)
end Go.Proofs.YtocfhkmdkdjinaaDoor
