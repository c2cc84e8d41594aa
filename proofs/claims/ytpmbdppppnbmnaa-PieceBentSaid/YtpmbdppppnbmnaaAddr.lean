/- Addresses, parts, slices, conversions and lengths: what they read as. Over any program. -/
import Derived.Test.YtpmbdppppnbmnaaRead
namespace Go.Proofs.Ytpmbdppppnbmnaa
open Go Go.RowKit
set_option linter.unusedVariables false
set_option linter.unusedSimpArgs false

def Ty.elem : Ty → Nat
  | .slice e | .arr _ e | .ptr e => e
  | _ => 0
/-- 'x[i]', its address. -/
def ixaD (Ti : Nat → TI) (O : Nat → Ob) (t : TypeId) (x y : D) : Option (Prop × D × List Nat) :=
  match y with
  | .int _ i =>
    match (Ti t).ty, x with
    | .slice e, .sl o g off len =>
        some ((g = (O o).sh.gen ∧ (O o).sh.esz = (Ti e).sz ∧ ((Ti e).ty.one || (Ti e).ty.agg) = true ∧ 0 ≤ i ∧ i < len), .ptr o g (off + i.toNat * (Ti e).sz), [o])
    | .slice e, .rob l => some (((Ti e).sz = 1 ∧ ((Ti e).ty.one || (Ti e).ty.agg) = true ∧ 0 ≤ i ∧ i < l.length), .rpb i.toNat l, [])
    | .slice e, .ros s n cs => some ((s = (Ti e).sz ∧ ((Ti e).ty.one || (Ti e).ty.agg) = true ∧ 0 ≤ i ∧ i < n), .rop (i.toNat * (Ti e).sz) cs, [])
    | .arr n e, .ptr o g off => some ((g = (O o).sh.gen ∧ ((Ti e).ty.one || (Ti e).ty.agg) = true ∧ 0 ≤ i ∧ i < n), .ptr o g (off + i.toNat * (Ti e).sz), [o])
    | .slice e, .rof s n f => some ((s = (Ti e).sz ∧ ((Ti e).ty.one || (Ti e).ty.agg) = true ∧ 0 ≤ i ∧ i < n), .rpf i.toNat 0 s n f, [])
    | .arr n e, .rpf k j s m f => some ((s = (Ti e).sz ∧ ((Ti e).ty.one || (Ti e).ty.agg) = true ∧ 0 ≤ i ∧ i < n), .rpf (k + i.toNat) j s m f, [])
    | .arr n e, .rpb k l => some (((Ti e).sz = 1 ∧ ((Ti e).ty.one || (Ti e).ty.agg) = true ∧ 0 ≤ i ∧ i < n), .rpb (k + i.toNat) l, [])
    | .arr n e, .rop off cs => some ((((Ti e).ty.one || (Ti e).ty.agg) = true ∧ 0 ≤ i ∧ i < n), .rop (off + i.toNat * (Ti e).sz) cs, [])
    | _, _ => none
  | _ => none
/-- 'x.f', its address. -/
def fdaD (Ti : Nat → TI) (O : Nat → Ob) (t : TypeId) (x : D) (f : Nat) : Option (Prop × D × List Nat) :=
  match (Ti t).ty with
  | .struct fs =>
    match fs[f]? with
    | some (fo, ft) =>
      match x with
      | .ptr o g off => some ((g = (O o).sh.gen ∧ (Ti ft).sz ≠ 0), .ptr o g (off + fo), [o])
      | .rop off cs => some ((Ti ft).sz ≠ 0, .rop (off + fo) cs, [])
      | .rpf k j s n f => some ((Ti ft).sz ≠ 0, .rpf k (j + fo) s n f, [])
      | _ => none
    | none => none
  | _ => none
/-- A part of a value. -/
def partD (Ti : Nat → TI) (t : TypeId) (cs : List D) (off : Nat) : Option (Prop × D) :=
  if (Ti t).ty.one then some (off < cs.length, cs.getD off .bot)
  else if (Ti t).ty.agg then some (off + (Ti t).sz ≤ cs.length ∧ (isBA Ti t = true → ((cs.drop off).take (Ti t).sz).all D.isU8 = true), aggD (isBA Ti t) ((cs.drop off).take (Ti t).sz))
  else none
def fldD (Ti : Nat → TI) (t : TypeId) (x : D) (f : Nat) : Option (Prop × D) :=
  match (Ti t).ty with
  | .struct fs =>
    match fs[f]? with
    | some (fo, ft) =>
      match x with
      | .agg cs => partD Ti ft cs fo
      | _ => none
    | none => none
  | _ => none
def idxD (Ti : Nat → TI) (t : TypeId) (x y : D) : Option (Prop × D) :=
  match y with
  | .int _ i =>
    match (Ti t).ty, x with
    | .str, .str l => some (0 ≤ i ∧ i < l.length, .u8 (gb l i.toNat))
    | .arr n e, .aggb l => some ((l.length = n ∧ (Ti e).sz = 1 ∧ (Ti e).ty.one = true ∧ 0 ≤ i ∧ i < n), .u8 (gb l i.toNat))
    | .arr n e, .agg cs => (partD Ti e cs (i.toNat * (Ti e).sz)).map fun r => ((((Ti e).ty.one || (Ti e).ty.agg) = true ∧ 0 ≤ i ∧ i < n ∧ r.1), r.2)
    | _, _ => none
  | _ => none

section
variable {P : Program} {w : World}
theorem ne_of_or {t : Ty} (h : (t.one || t.agg) = true) : t ≠ .none := by
  rintro rfl
  cases h
theorem ixa_slice {t e : TypeId} (ht : (tiOf P t).ty = .slice e) (he : (tiOf P e).ty ≠ .none) {a : Addr} {len cap : Nat} {k : IntKind} {i : Int} (h0 : 0 ≤ i) (h1 : i < len) :
    (Instr.indexAt t (.slice (some a) len cap) (.int k i)).run P w = .ok (.pointer (some (a.add (i.toNat * (tiOf P e).sz)))) w := by
  simp [Instr.indexAt, asIntOf, run_underlying (ti_slice ht), run_sz he, h0, h1]
theorem ixa_arr {t e : TypeId} {n : Nat} (ht : (tiOf P t).ty = .arr n e) (he : (tiOf P e).ty ≠ .none) {a : Addr} {k : IntKind} {i : Int} (h0 : 0 ≤ i) (h1 : i < n) :
    (Instr.indexAt t (.pointer (some a)) (.int k i)).run P w = .ok (.pointer (some (a.add (i.toNat * (tiOf P e).sz)))) w := by
  simp [Instr.indexAt, asIntOf, run_underlying (ti_arr ht), run_sz he, h0, h1, Instr.sureAddr]
theorem run_part_one {t : TypeId} (h : (tiOf P t).ty.one = true) {cs : Array Value} {off : Nat} {u : Value} (hu : cs[off]? = some u) : (part t cs off).run P w = .ok u w := by
  simp [part, run_isAgg_one h, hu]
theorem run_part_agg {t : TypeId} (h : (tiOf P t).ty.agg = true) {cs : Array Value} {off : Nat} : (part t cs off).run P w = .ok (.agg (cs.extract off (off + (tiOf P t).sz))) w := by
  simp [part, run_isAgg_agg h, run_sz (agg_ne h)]
end

section
variable {C : Ctx} {s : St} {ρ : Nat → Pl} {S : Nat → Prop} {Φ : Nat → List Nat} {w : World}
theorem rv_ptr (o g off : Nat) (e : g = (s.sh o).gen) : RV w S ρ s.sh (.ptr o g off) (.pointer (some ⟨(ρ o).blk, (ρ o).base + off, none⟩)) [] :=
  .ptr o g off _ rfl (Nat.le_of_eq e) fun _ => rfl

theorem ixaD_ok (h : RepW C s ρ S Φ w) {t : TypeId} {x y : D} {g : Prop} {d : D} {R : List Nat} (e : ixaD (tiOf C.P) s.ob t x y = some (g, d, R)) (hg : g) {vx vy : Value} (hx : RV w S ρ s.sh x vx []) (hy : RV w S ρ s.sh y vy []) :
    ∃ v', (Instr.indexAt t vx vy).run C.P w = .ok v' w ∧ RV w S ρ s.sh d v' [] := by
  unfold ixaD at e
  split at e
  · rename_i k i
    obtain rfl := inv_int hy
    split at e
    · rename_i el o g' off len ht
      injection e with e; injection e with e1 e2; injection e2 with e2 e3; subst e1; subst e2
      obtain ⟨g1, g2, g3, g4, g5⟩ := hg
      obtain ⟨A, cap, rfl, h1, h2, h3, h4⟩ := inv_sl hx g1
      rcases h4 with ⟨h4, _⟩ | ⟨rfl, _⟩
      · omega
      · refine ⟨_, ixa_slice ht (ne_of_or g3) g4 g5, ?_⟩
        rw [add_lit, Nat.add_assoc]
        exact rv_ptr o g' _ g1
    · rename_i el l ht
      injection e with e; injection e with e1 e2; injection e2 with e2 e3; subst e1; subst e2
      obtain ⟨g1, g2, g4, g5⟩ := hg
      cases hx with
      | rob _ A n cap hr =>
        have hl := hr.len
        obtain ⟨b, off, rfl, hb, hc⟩ := hr.cells (by omega)
        refine ⟨_, ixa_slice ht (ne_of_or g2) g4 (by omega), ?_⟩
        rw [add_lit, g1, Nat.mul_one]
        exact .rpb i.toNat l b off hb (fun j hj => hc j (by omega))
    · rename_i el s' n cs ht
      injection e with e; injection e with e1 e2; injection e2 with e2 e3; subst e1; subst e2
      obtain ⟨g1, g2, g4, g5⟩ := hg
      cases hx with
      | ros _ _ _ A cap b off us hl hn hm hA hc hr =>
        obtain ⟨rfl, hb⟩ := hA (by omega)
        refine ⟨_, ixa_slice ht (ne_of_or g2) g4 g5, ?_⟩
        rw [add_lit]
        exact .rop _ cs b off us hb (hc (by omega)) hr
    · rename_i n el o g' off ht
      injection e with e; injection e with e1 e2; injection e2 with e2 e3; subst e1; subst e2
      obtain ⟨g1, g3, g4, g5⟩ := hg
      obtain rfl := inv_ptr hx g1
      refine ⟨_, ixa_arr ht (ne_of_or g3) g4 g5, ?_⟩
      rw [add_lit, Nat.add_assoc]
      exact rv_ptr o g' _ g1
    · rename_i el s' n f ht
      injection e with e; injection e with e1 e2; injection e2 with e2 e3; subst e1; subst e2
      obtain ⟨g1, g2, g4, g5⟩ := hg
      cases hx with
      | rof _ _ _ A cap b off us hn hm hp hA hc hr =>
        obtain ⟨rfl, hb⟩ := hA (by omega)
        refine ⟨_, ixa_slice ht (ne_of_or g2) g4 g5, ?_⟩
        rw [add_lit, ← g1]
        exact .rpf i.toNat 0 s' n f b off us hb hp hc hr
    · rename_i n el k j s' m f ht
      injection e with e; injection e with e1 e2; injection e2 with e2 e3; subst e1; subst e2
      obtain ⟨g1, g3, g4, g5⟩ := hg
      cases hx with
      | rpf _ _ _ _ _ b base us hb hp hc hr =>
        refine ⟨_, ixa_arr ht (ne_of_or g3) g4 g5, ?_⟩
        rw [add_lit, ← g1, show base + (k * s' + j) + i.toNat * s' = base + ((k + i.toNat) * s' + j) by rw [Nat.add_mul]; omega]
        exact .rpf (k + i.toNat) j s' m f b base us hb hp hc hr
    · rename_i n el k l ht
      injection e with e; injection e with e1 e2; injection e2 with e2 e3; subst e1; subst e2
      obtain ⟨g1, g3, g4, g5⟩ := hg
      cases hx with
      | rpb _ _ b base hb hc =>
        refine ⟨_, ixa_arr ht (ne_of_or g3) g4 g5, ?_⟩
        rw [add_lit, g1, Nat.mul_one, Nat.add_assoc]
        exact .rpb (k + i.toNat) l b base hb hc
    · rename_i n el off cs ht
      injection e with e; injection e with e1 e2; injection e2 with e2 e3; subst e1; subst e2
      obtain ⟨g3, g4, g5⟩ := hg
      cases hx with
      | rop _ _ b base us hb hc hr =>
        refine ⟨_, ixa_arr ht (ne_of_or g3) g4 g5, ?_⟩
        rw [add_lit, Nat.add_assoc]
        exact .rop _ cs b base us hb hc hr
    · cases e
  · cases e

theorem fd_get {fds : Array Field} {fs : List (Nat × Nat)} {f fo ft : Nat} (h : fds.toList.map (fun f => (f.offset, f.type)) = fs) (hf : fs[f]? = some (fo, ft)) : ∃ fd, fds[f]? = some fd ∧ fd.offset = fo ∧ fd.type = ft := by
  rw [← h, List.getElem?_map] at hf
  rcases hx : fds.toList[f]? with _ | fd
  · rw [hx] at hf; cases hf
  · rw [hx] at hf
    injection hf with hf
    injection hf with h1 h2
    exact ⟨fd, by rw [← Array.getElem?_toList]; exact hx, h1, h2⟩
theorem sz_ne {P : Program} {t : TypeId} (h : (tiOf P t).sz ≠ 0) : ∃ i, P.info? t = some i ∧ i.size = (tiOf P t).sz := by
  unfold tiOf at *
  split at h
  · rename_i i hi; exact ⟨i, hi, rfl⟩
  · exact absurd rfl h
theorem fdaD_ok (h : RepW C s ρ S Φ w) {t : TypeId} {x : D} {f : Nat} {g : Prop} {d : D} {R : List Nat} (e : fdaD (tiOf C.P) s.ob t x f = some (g, d, R)) (hg : g) {vx : Value} (hx : RV w S ρ s.sh x vx []) :
    ∃ v', (Instr.fieldAt t vx f).run C.P w = .ok v' w ∧ RV w S ρ s.sh d v' [] := by
  unfold fdaD at e
  split at e
  · rename_i fs ht
    obtain ⟨fds, hu, hfs⟩ := ti_struct ht
    split at e
    · rename_i fo ft hf
      obtain ⟨fd, hfd, rfl, rfl⟩ := fd_get hfs hf
      split at e
      · rename_i o g' off
        injection e with e; injection e with e1 e2; injection e2 with e2 e3; subst e1; subst e2
        obtain rfl := inv_ptr hx hg.1
        obtain ⟨i, hi, hi2⟩ := sz_ne hg.2
        have hz : ¬ (tiOf C.P fd.type).sz = 0 := hg.2
        refine ⟨_, ?_, rv_ptr o g' _ hg.1⟩
        simp [Instr.fieldAt, run_underlying hu, hfd, Instr.sureAddr, fieldPlace, run_sizeOf hi hi2, hz, add_lit, Nat.add_assoc]
      · rename_i off cs
        injection e with e; injection e with e1 e2; injection e2 with e2 e3; subst e1; subst e2
        cases hx with
        | rop _ _ b base us hb hc hr =>
          obtain ⟨i, hi, hi2⟩ := sz_ne hg
          have hz : ¬ (tiOf C.P fd.type).sz = 0 := hg
          refine ⟨.pointer (some ⟨b, base + (off + fd.offset), none⟩), ?_, .rop _ cs b base us hb hc hr⟩
          simp [Instr.fieldAt, run_underlying hu, hfd, Instr.sureAddr, fieldPlace, run_sizeOf hi hi2, hz, add_lit, Nat.add_assoc]
      · rename_i k j s' n f
        injection e with e; injection e with e1 e2; injection e2 with e2 e3; subst e1; subst e2
        cases hx with
        | rpf _ _ _ _ _ b base us hb hp hc hr =>
          obtain ⟨i, hi, hi2⟩ := sz_ne hg
          have hz : ¬ (tiOf C.P fd.type).sz = 0 := hg
          refine ⟨.pointer (some ⟨b, base + (k * s' + (j + fd.offset)), none⟩), ?_, .rpf k _ s' n f b base us hb hp hc hr⟩
          simp [Instr.fieldAt, run_underlying hu, hfd, Instr.sureAddr, fieldPlace, run_sizeOf hi hi2, hz, add_lit, Nat.add_assoc]
      · cases e
    · cases e
  · cases e

theorem partD_ok {P : Program} {t : TypeId} {cs : List D} {off : Nat} {g : Prop} {d : D} {H : Nat → Sh} (e : partD (tiOf P) t cs off = some (g, d)) (hg : g) {vs : List Value} (hl : vs.length = cs.length) (hr : ∀ (i : Nat) (c : D) (u : Value), cs[i]? = some c → vs[i]? = some u → RV w S ρ H c u []) :
    ∃ v', (part t vs.toArray off).run P w = .ok v' w ∧ RV w S ρ H d v' [] := by
  unfold partD at e
  split at e
  · rename_i h1
    injection e with e; injection e with e1 e2; subst e1; subst e2
    have hv : off < vs.length := by omega
    exact ⟨vs[off], run_part_one h1 (by simp [hv]), hr off _ _ (getD_some hg) (List.getElem?_eq_getElem hv)⟩
  · split at e
    · rename_i h1
      injection e with e; injection e with e1 e2; subst e1; subst e2
      refine ⟨_, run_part_agg h1, ?_⟩
      have ee : vs.toArray.extract off (off + (tiOf P t).sz) = ((vs.drop off).take (tiOf P t).sz).toArray := by
        simp [List.drop_take]
      rw [ee]
      refine rv_aggD (by simp; omega) hg.2 (fun i c u h1 h2 => hr (off + i) c u (drop_take_get h1) (drop_take_get h2))
    · cases e
theorem fldD_ok {H : Nat → Sh} {P : Program} {t : TypeId} {x : D} {f : Nat} {g : Prop} {d : D} (e : fldD (tiOf P) t x f = some (g, d)) (hg : g) {vx : Value} (hx : RV w S ρ H x vx []) :
    ∃ v', (Instr.field t vx f).run P w = .ok v' w ∧ RV w S ρ H d v' [] := by
  unfold fldD at e
  split at e
  · rename_i fs ht
    obtain ⟨fds, hu, hfs⟩ := ti_struct ht
    split at e
    · rename_i fo ft hf
      obtain ⟨fd, hfd, rfl, rfl⟩ := fd_get hfs hf
      split at e
      · obtain ⟨vs, rfl, hl, hr⟩ := inv_agg hx
        obtain ⟨v', h1, h2⟩ := partD_ok e hg hl hr
        exact ⟨v', by simp [Instr.field, run_underlying hu, hfd, asAgg, h1], h2⟩
      · cases e
    · cases e
  · cases e
theorem idxD_ok {H : Nat → Sh} {P : Program} {t : TypeId} {x y : D} {g : Prop} {d : D} (e : idxD (tiOf P) t x y = some (g, d)) (hg : g) {vx vy : Value} (hx : RV w S ρ H x vx []) (hy : RV w S ρ H y vy []) :
    ∃ v', (Instr.index t vx vy).run P w = .ok v' w ∧ RV w S ρ H d v' [] := by
  unfold idxD at e
  split at e
  · rename_i k i
    obtain rfl := inv_int hy
    split at e
    · rename_i l ht
      injection e with e; injection e with e1 e2; subst e1; subst e2
      obtain rfl := inv_str hx
      exact ⟨_, run_index_str t l k i (ti_str ht) hg.1 hg.2, .u8 _⟩
    · rename_i n el l ht
      injection e with e; injection e with e1 e2; subst e1; subst e2
      obtain ⟨g1, g2, g3, g4, g5⟩ := hg
      obtain rfl := inv_aggb hx
      refine ⟨u8 (gb l i.toNat), ?_, .u8 _⟩
      have hi : (u8s l).toArray[i.toNat]? = some (u8 (gb l i.toNat)) := by
        rw [List.getElem?_toArray, u8s_get, gb_of (by omega)]
        rfl
      have hp := run_part_one (P := P) (w := w) g3 hi
      simp only [Instr.index, Sem.run_bind, asIntOf, Sem.run_pure, Result.andThen_ok, run_underlying (ti_arr ht), if_pos (show 0 ≤ i ∧ i < (n : Int) from ⟨g4, g5⟩), run_sz (one_ne g3), g2, Nat.mul_one, hp]
    · rename_i n el cs ht
      rw [Option.map_eq_some_iff] at e
      obtain ⟨⟨g', d'⟩, e1, e2⟩ := e
      injection e2 with e2 e3
      subst e2; subst e3
      obtain ⟨g1, g2, g3, g4⟩ := hg
      obtain ⟨vs, rfl, hl, hr⟩ := inv_agg hx
      obtain ⟨v', h1, h2⟩ := partD_ok e1 g4 hl hr
      refine ⟨v', ?_, h2⟩
      simp only [Instr.index, Sem.run_bind, asIntOf, Sem.run_pure, Result.andThen_ok, run_underlying (ti_arr ht), if_pos (show 0 ≤ i ∧ i < (n : Int) from ⟨g2, g3⟩), run_sz (ne_of_or g1), h1]
    · cases e
  · cases e
end
end Go.Proofs.Ytpmbdppppnbmnaa
