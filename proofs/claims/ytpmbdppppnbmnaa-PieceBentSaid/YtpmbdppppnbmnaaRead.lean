/- Operations that read memory or reckon addresses: what they read as. Over any program. -/
import Derived.Test.YtpmbdppppnbmnaaPure
namespace Go.Proofs.Ytpmbdppppnbmnaa
open Go Go.RowKit
set_option linter.unusedVariables false
set_option linter.unusedSimpArgs false

/-- A value of one cell that owns nothing. -/
def D.sc : D → Bool
  | .bool _ | .int _ _ | .u8 _ | .u32 _ | .str _ | .nilP | .nilS | .nilF | .fn _ | .ptr _ _ _ | .sl _ _ _ _ | .rob _ | .ros _ _ _ | .rop _ _ | .rof _ _ _ | .rpf _ _ _ _ _ | .rpb _ _ => true
  | _ => false
def D.isU8 : D → Bool
  | .u8 _ => true
  | _ => false
def D.toU8 : D → UInt8
  | .u8 x => x
  | _ => 0
/-- Is it an array of bytes? -/
def isBA (Ti : Nat → TI) (t : TypeId) : Bool :=
  match (Ti t).ty with
  | .arr _ e => match (Ti e).ty with | .int .u8 => true | _ => false
  | _ => false
def Ty.agg : Ty → Bool
  | .arr _ _ | .struct _ => true
  | _ => false
def Ty.one : Ty → Bool
  | .bool | .int _ | .str | .slice _ | .ptr _ => true
  | _ => false
def Cont.at_ (c : Cont) (i : Nat) : D :=
  match c with
  | .bytes l => .u8 (gb l i)
  | .cells cs => cs.getD i .bot
/-- Some cells as one value. -/
def aggD (ba : Bool) (cs : List D) : D := if ba then .aggb (cs.map D.toU8) else .agg cs

section
variable {w : World} {S : Nat → Prop} {ρ : Nat → Pl} {H : Nat → Sh}
theorem RV.one_ {d : D} {v : Value} {F : List Nat} (h : RV w S ρ H d v F) (hd : d.sc = true) : F = [] ∧ v.oneCell' = true := by
  cases h <;> first | exact ⟨rfl, rfl⟩ | exact ⟨rfl, by assumption⟩ | cases hd
theorem isU8_of {d : D} (h : d.isU8 = true) : d = .u8 d.toU8 := by cases d <;> first | rfl | cases h
theorem all_u8_of {cs : List D} (h : cs.all D.isU8 = true) : cs = (cs.map D.toU8).map D.u8 := by
  induction cs with
  | nil => rfl
  | cons c r ih =>
    simp only [List.all_cons, Bool.and_eq_true] at h
    rw [List.map_cons, List.map_cons, ← ih h.2, ← isU8_of h.1]
theorem u8_isU8 (l : List UInt8) : (l.map D.u8).all D.isU8 = true := by simp [D.isU8]
theorem u8_sc (l : List UInt8) : (l.map D.u8).all D.sc = true := by simp [D.sc]
theorem map_toU8 (l : List UInt8) : (l.map D.u8).map D.toU8 = l := by
  induction l with
  | nil => rfl
  | cons x r ih => rw [List.map_cons, List.map_cons, ih]; rfl
/-- Values that are bytes. -/
theorem vs_u8 {l : List UInt8} {vs : List Value} (hl : vs.length = l.length) (h : ∀ (i : Nat) (c : D) (u : Value), (l.map D.u8)[i]? = some c → vs[i]? = some u → RV w S ρ H c u []) : vs = u8s l := by
  apply List.ext_getElem?
  intro i
  rw [u8s_get]
  rcases Nat.lt_or_ge i l.length with hi | hi
  · have hv : i < vs.length := by omega
    have := h i (.u8 l[i]) vs[i] (by simp [hi]) (List.getElem?_eq_getElem hv)
    rw [List.getElem?_eq_getElem hv, List.getElem?_eq_getElem hi, inv_u8 this]
    rfl
  · rw [List.getElem?_eq_none (by omega), List.getElem?_eq_none hi]; rfl
/-- Cells that were read, as one value. -/
theorem rv_aggD {ba : Bool} {cs : List D} {vs : List Value} (hl : vs.length = cs.length) (hb : ba = true → cs.all D.isU8 = true) (h : ∀ (i : Nat) (c : D) (u : Value), cs[i]? = some c → vs[i]? = some u → RV w S ρ H c u []) : RV w S ρ H (aggD ba cs) (.agg vs.toArray) [] := by
  unfold aggD
  split
  · rename_i e
    have e1 := all_u8_of (hb e)
    generalize cs.map D.toU8 = l at *
    subst e1
    rw [vs_u8 (by simpa using hl) h]
    exact .aggb _
  · exact RV.agg0 hl h
theorem flat_nil_of {Fs : List (List Nat)} (h : Fs.flatten = []) {i : Nat} {f : List Nat} (hf : Fs[i]? = some f) : f = [] := by
  rcases f with _ | ⟨a, f⟩
  · rfl
  · have := mem_flat_of hf (List.mem_cons_self)
    rw [h] at this
    cases this
theorem inv_agg {cs : List D} {v : Value} (h : RV w S ρ H (.agg cs) v []) : ∃ vs : List Value, v = .agg vs.toArray ∧ vs.length = cs.length ∧ ∀ (i : Nat) (c : D) (u : Value), cs[i]? = some c → vs[i]? = some u → RV w S ρ H c u [] := by
  cases h with
  | agg _ vs Fs F hv hf hF hr =>
    refine ⟨vs, rfl, hv, fun i c u h1 h2 => ?_⟩
    have hi : i < Fs.length := by rw [hf]; exact (List.getElem?_eq_some_iff.1 h1).1
    have h3 := List.getElem?_eq_getElem hi
    have := hr i c u _ h1 h2 h3
    rwa [flat_nil_of hF.symm h3] at this
theorem inv_tup {cs : List D} {v : Value} (h : RV w S ρ H (.tup cs) v []) : ∃ vs : List Value, v = .tuple vs.toArray ∧ vs.length = cs.length ∧ ∀ (i : Nat) (c : D) (u : Value), cs[i]? = some c → vs[i]? = some u → RV w S ρ H c u [] := by
  cases h with
  | tup _ vs Fs F hv hf hF hr =>
    refine ⟨vs, rfl, hv, fun i c u h1 h2 => ?_⟩
    have hi : i < Fs.length := by rw [hf]; exact (List.getElem?_eq_some_iff.1 h1).1
    have h3 := List.getElem?_eq_getElem hi
    have := hr i c u _ h1 h2 h3
    rwa [flat_nil_of hF.symm h3] at this
end

section
variable {C : Ctx} {s : St} {ρ : Nat → Pl} {S : Nat → Prop} {Φ : Nat → List Nat} {w : World}

/-- What lies in a live object's cell. -/
theorem RepW.cell (h : RepW C s ρ S Φ w) {o : Nat} {c : Cont} (ho : (s.ob o).ct = some c) {i : Nat} (hi : i < c.len) (hs : (c.at_ i).sc = true) :
    ∃ u, w.cell? ⟨(ρ o).blk, (ρ o).base + i, none⟩ = some u ∧ RV w S ρ s.sh (c.at_ i) u [] := by
  obtain ⟨h1, h2⟩ := h.ob o c ho
  rcases h2 with ⟨h0, _⟩ | ⟨cur, E, fz, Fs, hh, hz, hsz, hb, hF, hc⟩
  · omega
  · have hlt : (ρ o).base + i < cur.size := by omega
    refine ⟨cur[(ρ o).base + i], ?_, ?_⟩
    · rw [cell_of_row w _ _ cur E fz hh]
      exact Array.getElem?_eq_getElem hlt
    · cases c with
      | bytes l =>
        have h3 := hc.2 i hi
        rw [Array.getElem?_eq_getElem hlt] at h3
        injection h3 with h3
        show RV w S ρ s.sh (.u8 (gb l i)) _ []
        rw [h3]
        exact .u8 _
      | cells cs =>
        have hi' : i < cs.length := hi
        have hf : i < Fs.length := by rw [hc.1]; exact hi'
        have e : cs[i]? = some (Cont.at_ (.cells cs) i) := by
          show cs[i]? = some (cs.getD i .bot)
          rw [List.getD_eq_getElem?_getD, List.getElem?_eq_getElem hi']
          rfl
        have := hc.2 i _ _ _ e (Array.getElem?_eq_getElem hlt) (List.getElem?_eq_getElem hf)
        rwa [(this.one_ hs).1] at this
end

/-! Bytes that a slice reads as. -/
def byt (O : Nat → Ob) (d : D) : Option (Prop × List UInt8 × List Nat) :=
  match d with
  | .rob l => some (True, l, [])
  | .nilS => some (True, [], [])
  | .sl o g off len =>
    match (O o).ct with
    | some (.bytes l) => some (g = (O o).sh.gen ∧ (O o).sh.esz = 1, (l.drop off).take len, [o])
    | _ => none
  | _ => none

section
variable {C : Ctx} {s : St} {ρ : Nat → Pl} {S : Nat → Prop} {Φ : Nat → List Nat} {w : World}
theorem byt_ok (h : RepW C s ρ S Φ w) {d : D} {g : Prop} {l : List UInt8} {R : List Nat} (e : byt s.ob d = some (g, l, R)) (hg : g) {v : Value} (hr : RV w S ρ s.sh d v []) :
    ∃ A n cap, v = .slice A n cap ∧ Rd w w.heap.size A n cap l := by
  unfold byt at e
  split at e
  · injection e with e; injection e with e1 e2; injection e2 with e2 e3; subst e2
    cases hr with
    | rob _ A n cap hr => exact ⟨A, n, cap, rfl, hr.rd fun b hb => (h.s1 b hb).1⟩
  · injection e with e; injection e with e1 e2; injection e2 with e2 e3; subst e2
    cases hr
    exact ⟨none, 0, 0, rfl, (Rd.nil_ w).up (Nat.zero_le _) (Nat.le_refl _)⟩
  · rename_i o g' off len
    split at e
    · rename_i l' ho
      injection e with e; injection e with e1 e2; injection e2 with e2 e3; subst e1; subst e2
      obtain ⟨A, cap, rfl, h1, h2, h3, h4⟩ := inv_sl hr hg.1
      have hes : (s.sh o).esz = 1 := hg.2
      rw [hes, Nat.mul_one] at h3
      have hcl : (s.sh o).clen = l'.length := (h.ob o _ ho).1
      refine ⟨A, len, cap, rfl, ⟨by rw [List.length_take, List.length_drop]; omega, h1, h2, Nat.le_refl _, fun hn => ?_⟩⟩
      rcases h4 with ⟨h4, _⟩ | ⟨h4, _⟩
      · omega
      · refine ⟨_, _, h4, ?_, fun i hi => ?_⟩
        · obtain ⟨u, hu, _⟩ := h.cell ho (i := 0) (by show 0 < l'.length; omega) rfl
          exact World.block_lt_of_cell? w _ hu
        · obtain ⟨u, hu, hr2⟩ := h.cell ho (i := off + i) (by show _ < l'.length; omega) rfl
          rw [Nat.add_assoc, hu]
          have := inv_u8 hr2
          rw [this]
          congr 2
          simp only [gb, List.getD_eq_getElem?_getD, List.getElem?_take, if_pos hi, List.getElem?_drop]
    · cases e
  · cases e
end

/-! Loads. -/
def ldD (Ti : Nat → TI) (O : Nat → Ob) (t : TypeId) (d : D) : Option (Prop × D × List Nat) :=
  match d with
  | .ptr o g off =>
    match (O o).ct with
    | some (.bytes l) =>
      if (Ti t).ty.one then some (g = (O o).sh.gen ∧ off < l.length, .u8 (gb l off), [o])
      else if isBA Ti t then some (g = (O o).sh.gen ∧ off + (Ti t).sz ≤ l.length, .aggb ((l.drop off).take (Ti t).sz), [o])
      else none
    | some (.cells cs) =>
      if (Ti t).ty.one then some (g = (O o).sh.gen ∧ off < cs.length ∧ (cs.getD off .bot).sc = true, cs.getD off .bot, [o])
      else if (Ti t).ty.agg then some (g = (O o).sh.gen ∧ off + (Ti t).sz ≤ cs.length ∧ ((cs.drop off).take (Ti t).sz).all D.sc = true ∧ (isBA Ti t = true → ((cs.drop off).take (Ti t).sz).all D.isU8 = true),
        aggD (isBA Ti t) ((cs.drop off).take (Ti t).sz), [o])
      else none
    | none => none
  | .rop off cs =>
    if (Ti t).ty.one then some (off < cs.length, cs.getD off .bot, [])
    else if (Ti t).ty.agg then some (off + (Ti t).sz ≤ cs.length ∧ (isBA Ti t = true → ((cs.drop off).take (Ti t).sz).all D.isU8 = true), aggD (isBA Ti t) ((cs.drop off).take (Ti t).sz), [])
    else none
  | .rpf k j s n f =>
    if (Ti t).ty.one then some (k < n ∧ j < s, f k j, [])
    else if (Ti t).ty.agg then some (k < n ∧ j + (Ti t).sz ≤ s ∧ (isBA Ti t = true → ((List.range (Ti t).sz).map fun i => f k (j + i)).all D.isU8 = true), aggD (isBA Ti t) ((List.range (Ti t).sz).map fun i => f k (j + i)), [])
    else none
  | .rpb k l =>
    if (Ti t).ty.one then some (k < l.length, .u8 (gb l k), [])
    else if isBA Ti t then some (k + (Ti t).sz ≤ l.length, .aggb ((l.drop k).take (Ti t).sz), [])
    else none
  | _ => none

section
variable {P : Program} {w : World}
theorem run_isAgg_one {t : TypeId} (h : (tiOf P t).ty.one = true) : (isAgg t).run P w = .ok false w := by
  rcases e : (tiOf P t).ty with _ | _ | k | _ | x | ⟨n, x⟩ | fs | x <;> rw [e] at h <;> first | (cases h; done) | skip
  · simp [isAgg, run_underlying (ti_bool e)]
  · simp [isAgg, run_underlying (ti_int e)]
  · simp [isAgg, run_underlying (ti_str e)]
  · simp [isAgg, run_underlying (ti_slice e)]
  · simp [isAgg, run_underlying (ti_ptr e)]
theorem run_isAgg_agg {t : TypeId} (h : (tiOf P t).ty.agg = true) : (isAgg t).run P w = .ok true w := by
  rcases e : (tiOf P t).ty with _ | _ | k | _ | x | ⟨n, x⟩ | fs | x <;> rw [e] at h <;> first | (cases h; done) | skip
  · simp [isAgg, run_underlying (ti_arr e)]
  · obtain ⟨fds, e2, _⟩ := ti_struct e
    simp [isAgg, run_underlying e2]
theorem isBA_agg {t : TypeId} (h : isBA (tiOf P) t = true) : (tiOf P t).ty.agg = true := by
  unfold isBA at h
  split at h
  · rename_i e; rw [e]; rfl
  · cases h
theorem run_sz {t : TypeId} (h : (tiOf P t).ty ≠ .none) : (sizeOf t).run P w = .ok (tiOf P t).sz w := by
  obtain ⟨i, hi, h1, _⟩ := ti_info h
  exact run_sizeOf hi h1
theorem agg_ne {t : Ty} (h : t.agg = true) : t ≠ .none := by rintro rfl; cases h
theorem one_ne {t : Ty} (h : t.one = true) : t ≠ .none := by rintro rfl; cases h
theorem run_load_one {t : TypeId} (h : (tiOf P t).ty.one = true) {b o : Nat} {u : Value} (hc : w.cell? ⟨b, o, none⟩ = some u) : (Instr.loadAt t (.pointer (some ⟨b, o, none⟩))).run P w = .ok u w := by
  simp [Instr.loadAt, Instr.sureAddr, loadVar, run_isAgg_one h, run_load, hc]
theorem run_load_agg {t : TypeId} (h : (tiOf P t).ty.agg = true) {b o : Nat} {us : List Value} (hl : us.length = (tiOf P t).sz) (hc : ∀ i u, us[i]? = some u → w.cell? ⟨b, o + i, none⟩ = some u) : (Instr.loadAt t (.pointer (some ⟨b, o, none⟩))).run P w = .ok (.agg us.toArray) w := by
  have hr := run_loadCells_list (P := P) (w := w) ⟨b, o, none⟩ us (fun j v hv => by rw [add_lit]; exact hc j v hv)
  rw [hl] at hr
  simp [Instr.loadAt, Instr.sureAddr, loadVar, run_isAgg_agg h, run_sz (agg_ne h), hr]
end

section
variable {C : Ctx} {s : St} {ρ : Nat → Pl} {S : Nat → Prop} {Φ : Nat → List Nat} {w : World}
theorem getD_some {cs : List D} {i : Nat} (h : i < cs.length) : cs[i]? = some (cs.getD i .bot) := by
  rw [List.getD_eq_getElem?_getD, List.getElem?_eq_getElem h]; rfl
theorem drop_take_get {α : Type} {cs : List α} {off n i : Nat} {c : α} (h : ((cs.drop off).take n)[i]? = some c) : cs[off + i]? = some c := by
  rw [List.getElem?_take] at h
  split at h
  · rwa [List.getElem?_drop] at h
  · cases h
/-- A list of values that are given one by one. -/
theorem list_of {Q : Nat → Value → Prop} : ∀ (n : Nat), (∀ i, i < n → ∃ u, Q i u) → ∃ us : List Value, us.length = n ∧ ∀ i u, us[i]? = some u → Q i u
  | 0, _ => ⟨[], rfl, fun i u h => by simp at h⟩
  | n + 1, h => by
    obtain ⟨us, h1, h2⟩ := list_of n (fun i hi => h i (by omega))
    obtain ⟨u, hu⟩ := h n (by omega)
    refine ⟨us ++ [u], by simp [h1], fun i v hv => ?_⟩
    rw [List.getElem?_append] at hv
    split at hv
    · exact h2 i v hv
    · rename_i hlt
      have hi : i = n := by
        have := (List.getElem?_eq_some_iff.1 hv).1
        simp at this
        omega
      subst hi
      rw [h1, Nat.sub_self] at hv
      injection hv with hv
      subst hv
      exact hu

theorem ldD_ok (h : RepW C s ρ S Φ w) {t : TypeId} {x : D} {g : Prop} {d : D} {R : List Nat} (e : ldD (tiOf C.P) s.ob t x = some (g, d, R)) (hg : g) {v : Value} (hr : RV w S ρ s.sh x v []) :
    ∃ v', (Instr.loadAt t v).run C.P w = .ok v' w ∧ RV w S ρ s.sh d v' [] := by
  unfold ldD at e
  split at e
  · rename_i o g' off
    split at e
    · rename_i l ho
      split at e
      · rename_i h1
        injection e with e; injection e with e1 e2; injection e2 with e2 e3; subst e1; subst e2
        obtain rfl := inv_ptr hr hg.1
        obtain ⟨u, hu, hr2⟩ := h.cell ho (i := off) hg.2 rfl
        exact ⟨u, run_load_one h1 hu, hr2⟩
      · split at e
        · rename_i hb
          injection e with e; injection e with e1 e2; injection e2 with e2 e3; subst e1; subst e2
          obtain rfl := inv_ptr hr hg.1
          have h2 := hg.2
          refine ⟨.agg (u8s ((l.drop off).take (tiOf C.P t).sz)).toArray, run_load_agg (isBA_agg hb) (by rw [u8s_length, List.length_take, List.length_drop]; omega) (fun i u hu => ?_), .aggb _⟩
          rw [u8s_get] at hu
          rcases hx : ((l.drop off).take (tiOf C.P t).sz)[i]? with _ | x
          · rw [hx] at hu; cases hu
          · rw [hx] at hu
            injection hu with hu
            subst hu
            have hx2 := drop_take_get hx
            obtain ⟨u, hu, hr2⟩ := h.cell ho (i := off + i) (List.getElem?_eq_some_iff.1 hx2).1 rfl
            rw [Nat.add_assoc, hu, inv_u8 hr2, gb_get hx2]
        · cases e
    · rename_i cs ho
      split at e
      · rename_i h1
        injection e with e; injection e with e1 e2; injection e2 with e2 e3; subst e1; subst e2
        obtain rfl := inv_ptr hr hg.1
        obtain ⟨u, hu, hr2⟩ := h.cell ho (i := off) hg.2.1 hg.2.2
        exact ⟨u, run_load_one h1 hu, hr2⟩
      · split at e
        · rename_i h1
          injection e with e; injection e with e1 e2; injection e2 with e2 e3; subst e1; subst e2
          obtain ⟨hg1, hg2, hg3, hg4⟩ := hg
          obtain rfl := inv_ptr hr hg1
          have hlen : ((cs.drop off).take (tiOf C.P t).sz).length = (tiOf C.P t).sz := by rw [List.length_take, List.length_drop]; omega
          obtain ⟨us, hu1, hu2⟩ := list_of (Q := fun i u => w.cell? ⟨(ρ o).blk, (ρ o).base + off + i, none⟩ = some u ∧ RV w S ρ s.sh (cs.getD (off + i) .bot) u []) (tiOf C.P t).sz (fun i hi => by
            have hc : ((cs.drop off).take (tiOf C.P t).sz)[i]? = some (cs.getD (off + i) .bot) := by
              rw [List.getElem?_take, if_pos hi, List.getElem?_drop]
              exact getD_some (by omega)
            have hsc := List.all_eq_true.1 hg3 _ (List.mem_of_getElem? hc)
            obtain ⟨u, hu, hr2⟩ := h.cell ho (i := off + i) (by show _ < cs.length; omega) hsc
            exact ⟨u, by rw [Nat.add_assoc]; exact hu, hr2⟩)
          refine ⟨.agg us.toArray, run_load_agg h1 hu1 (fun i u hu => (hu2 i u hu).1), rv_aggD (by omega) hg4 (fun i c u h1 h2 => ?_)⟩
          have := (hu2 i u h2).2
          have h3 := drop_take_get h1
          rw [List.getD_eq_getElem?_getD, h3] at this
          exact this
        · cases e
    · cases e
  · rename_i off cs
    cases hr with
    | rop _ _ b base us hb hc hr =>
      split at e
      · rename_i h1
        injection e with e; injection e with e1 e2; injection e2 with e2 e3; subst e1; subst e2
        exact ⟨_, run_load_one h1 (hc off _ (getD_some hg)), hr off _ (getD_some hg)⟩
      · split at e
        · rename_i h1
          injection e with e; injection e with e1 e2; injection e2 with e2 e3; subst e1; subst e2
          have hlen : ((cs.drop off).take (tiOf C.P t).sz).length = (tiOf C.P t).sz := by rw [List.length_take, List.length_drop]; omega
          refine ⟨.agg ((List.range (tiOf C.P t).sz).map fun i => us (off + i)).toArray, run_load_agg h1 (by simp) (fun i u hu => ?_), rv_aggD (by simp; omega) hg.2 (fun i c u h1 h2 => ?_)⟩
          · rw [List.getElem?_map] at hu
            have hi : i < (tiOf C.P t).sz := by
              rcases Nat.lt_or_ge i (tiOf C.P t).sz with hlt | hge
              · exact hlt
              · rw [List.getElem?_eq_none (by simpa using hge)] at hu; cases hu
            simp [hi] at hu
            subst hu
            rw [Nat.add_assoc]
            exact hc (off + i) _ (getD_some (by omega))
          · have h3 := drop_take_get h1
            have hi : i < (tiOf C.P t).sz := by rw [← hlen]; exact (List.getElem?_eq_some_iff.1 h1).1
            simp [hi] at h2
            subst h2
            exact hr _ _ h3
        · cases e
  · rename_i k j sn n f
    cases hr with
    | rpf _ _ _ _ _ b base us hb hp hc hr =>
      split at e
      · rename_i h1
        injection e with e; injection e with e1 e2; injection e2 with e2 e3; subst e1; subst e2
        exact ⟨_, run_load_one h1 (hc k j hg.1 hg.2), hr k j hg.1 hg.2⟩
      · split at e
        · rename_i h1
          injection e with e; injection e with e1 e2; injection e2 with e2 e3; subst e1; subst e2
          obtain ⟨g1, g2, g3⟩ := hg
          refine ⟨.agg ((List.range (tiOf C.P t).sz).map fun i => us k (j + i)).toArray, run_load_agg h1 (by simp) (fun i u hu => ?_), rv_aggD (by simp) g3 (fun i c u h1 h2 => ?_)⟩
          · rw [List.getElem?_map] at hu
            have hi : i < (tiOf C.P t).sz := by
              rcases Nat.lt_or_ge i (tiOf C.P t).sz with hlt | hge
              · exact hlt
              · rw [List.getElem?_eq_none (by simpa using hge)] at hu; cases hu
            simp [hi] at hu
            subst hu
            rw [Nat.add_assoc, Nat.add_assoc]
            exact hc k (j + i) g1 (by omega)
          · have hi : i < (tiOf C.P t).sz := by
              rcases Nat.lt_or_ge i (tiOf C.P t).sz with hlt | hge
              · exact hlt
              · rw [List.getElem?_eq_none (by simpa using hge)] at h1; cases h1
            simp [hi] at h1 h2
            subst h1; subst h2
            exact hr k (j + i) g1 (by omega)
        · cases e
  · rename_i k l
    cases hr with
    | rpb _ _ b base hb hc =>
      split at e
      · rename_i h1
        injection e with e; injection e with e1 e2; injection e2 with e2 e3; subst e1; subst e2
        exact ⟨_, run_load_one h1 (hc k hg), .u8 _⟩
      · split at e
        · rename_i hb2
          injection e with e; injection e with e1 e2; injection e2 with e2 e3; subst e1; subst e2
          refine ⟨.agg (u8s ((l.drop k).take (tiOf C.P t).sz)).toArray, run_load_agg (isBA_agg hb2) (by rw [u8s_length, List.length_take, List.length_drop]; omega) (fun i u hu => ?_), .aggb _⟩
          rw [u8s_get] at hu
          rcases hx : ((l.drop k).take (tiOf C.P t).sz)[i]? with _ | x
          · rw [hx] at hu; cases hu
          · rw [hx] at hu
            injection hu with hu
            subst hu
            have hx2 := drop_take_get hx
            rw [Nat.add_assoc, hc (k + i) (List.getElem?_eq_some_iff.1 hx2).1, gb_get hx2]
        · cases e
  · cases e
end
end Go.Proofs.Ytpmbdppppnbmnaa
