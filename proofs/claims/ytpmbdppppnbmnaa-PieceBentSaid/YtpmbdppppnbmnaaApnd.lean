/- append and copy, in the abstract state. Over any program. -/
import Derived.Test.YtpmbdppppnbmnaaApp
namespace Go.Proofs.Ytpmbdppppnbmnaa
open Go Go.RowKit
set_option linter.unusedVariables false
set_option linter.unusedSimpArgs false

def bytN : D → Nat
  | .rob l => l.length
  | .sl _ _ _ len => len
  | .str l => l.length
  | _ => 0
/-- The bytes that append's, or copy's, last argument reads as. -/
def bsrc (Ti : Nat → TI) (O : Nat → Ob) (T : TypeId) (y : D) : Option (Prop × List UInt8 × List Nat) :=
  match (Ti T).ty, y with
  | .str, .str l => some (True, l, [])
  | .slice _, y => byt O y
  | _, _ => none
/-- The elements of s cells that a slice reads as. -/
def els (O : Nat → Ob) (s : Nat) (d : D) : Option (Prop × List D × Nat × List Nat) :=
  match d with
  | .nilS => some (True, [], 0, [])
  | .ros s' n cs => some (s' = s, cs, n, [])
  | .rof s' n f => some (s' = s ∧ s' = 1, (List.range n).map (fun i => f i 0), n, [])
  | .sl o g off len =>
    match (O o).ct with
    | some (.cells cs) => some (g = (O o).sh.gen ∧ (O o).sh.esz = s, (cs.drop off).take (len * s), len, [o])
    | _ => none
  | _ => none
/-- append of bytes: the object, what it holds, how many. -/
def apbD (Ti : Nat → TI) (O : Nat → Ob) (t : Nat) (T T2 : TypeId) (x y : D) : Option (Prop × Nat × Cont × Nat × List Nat) :=
  match (Ti T).ty, bsrc Ti O T2 y with
  | .slice e, some (gy, yl, Ry) =>
    match x with
    | .nilS => some ((gy ∧ (Ti e).zero = .u8 0 ∧ (Ti e).sz = 1 ∧ (Ti e).by_ = 1 ∧ bytN y ≤ 140737488355328), t, .bytes yl, bytN y, t :: Ry)
    | .sl o g off len =>
      match (O o).ct with
      | some (.bytes l) => some ((gy ∧ g = (O o).sh.gen ∧ (O o).sh.esz = 1 ∧ (Ti e).zero = .u8 0 ∧ (Ti e).sz = 1 ∧ (Ti e).by_ = 1 ∧ len + bytN y ≤ 140737488355328), o, .bytes ((l.drop off).take len ++ yl), len + bytN y, o :: Ry)
      | _ => none
    | _ => none
  | _, _ => none
/-- append of other elements. -/
def apcD (Ti : Nat → TI) (O : Nat → Ob) (t : Nat) (T T2 : TypeId) (x y : D) : Option (Prop × Nat × Nat × Cont × Nat × List Nat) :=
  match (Ti T).ty with
  | .slice e =>
    match els O (Ti e).sz y with
    | some (gy, ys, ny, Ry) =>
      match x with
      | .nilS => some ((gy ∧ (Ti T2).ty = .slice e ∧ ys.all D.sc = true ∧ 0 < (Ti e).sz ∧ (Ti e).zero.cells.length = (Ti e).sz ∧ (Ti e).zero.cells.all D.sc = true ∧ 0 < (Ti e).by_ ∧ ny * (Ti e).by_ ≤ 140737488355328), t, (Ti e).sz, .cells ys, ny, t :: Ry)
      | .sl o g off len =>
        match (O o).ct with
        | some (.cells cs) => some ((gy ∧ (Ti T2).ty = .slice e ∧ ys.all D.sc = true ∧ ((cs.drop off).take (len * (Ti e).sz)).all D.sc = true ∧ g = (O o).sh.gen ∧ (O o).sh.esz = (Ti e).sz ∧ 0 < (Ti e).sz ∧ (Ti e).zero.cells.length = (Ti e).sz ∧ (Ti e).zero.cells.all D.sc = true ∧ 0 < (Ti e).by_ ∧ (len + ny) * (Ti e).by_ ≤ 140737488355328),
            o, (Ti e).sz, .cells ((cs.drop off).take (len * (Ti e).sz) ++ ys), len + ny, o :: Ry)
        | _ => none
      | _ => none
    | none => none
  | _ => none

section
variable {C : Ctx} {s : St} {ρ : Nat → Pl} {S : Nat → Prop} {Φ : Nat → List Nat} {w : World}

/-- A live object's row. -/
theorem RepW.row (h : RepW C s ρ S Φ w) {o : Nat} {c : Cont} (ho : (s.ob o).ct = some c) {off len : Nat} {v : Value} (hs : SlAt (ρ o) (s.sh o) off len v) (he : 0 < (s.sh o).esz) (hsc : ∀ i, i < len * (s.sh o).esz → (c.at_ (off + i)).sc = true) :
    ∃ A cap xs, v = .slice A len cap ∧ RowX w (s.sh o).esz A len cap xs (ρ o).blk ∧ (0 < cap → (ρ o).blk ∈ Φ o) ∧ RdV w w.heap.size (s.sh o).esz A len cap xs ∧ ∀ i u, xs[i]? = some u → RV w S ρ s.sh (c.at_ (off + i)) u [] := by
  obtain ⟨A, cap, rfl, h1, h2, h3, h4⟩ := hs
  obtain ⟨hcl, h5⟩ := h.ob o c ho
  rcases h4 with ⟨rfl, rfl⟩ | ⟨hA, hfit⟩
  · exact ⟨A, 0, [], rfl, ⟨by simp, Nat.le_refl _, h2, .inl ⟨rfl, rfl⟩⟩, fun h => absurd h (by omega), ⟨by simp, Nat.le_refl _, h2, Nat.le_refl _, fun h => absurd h (by omega)⟩, fun i u hu => by simp at hu⟩
  · rcases h5 with ⟨q1, q2, q3⟩ | ⟨cur, E, fz, Fs, hh, hz, hsz, hb, hF, hct⟩
    · have hc0 : cap = 0 := by
        rcases Nat.eq_zero_or_pos cap with h0 | h0
        · exact h0
        · have := Nat.mul_pos h0 he
          omega
      subst hc0
      have hl0 : len = 0 := by omega
      subst hl0
      exact ⟨A, 0, [], rfl, ⟨by simp, Nat.le_refl _, h2, .inl ⟨rfl, rfl⟩⟩, fun h => absurd h (by omega), ⟨by simp, Nat.le_refl _, h2, Nat.le_refl _, fun h => absurd h (by omega)⟩, fun i u hu => by simp at hu⟩
    · have hlen : ((cur.toList.drop ((ρ o).base + off)).take (len * (s.sh o).esz)).length = len * (s.sh o).esz := by
        rw [List.length_take, List.length_drop, Array.length_toList]
        have := Nat.mul_le_mul_right (s.sh o).esz h1
        omega
      have hget : ∀ i u, ((cur.toList.drop ((ρ o).base + off)).take (len * (s.sh o).esz))[i]? = some u → cur[(ρ o).base + off + i]? = some u := fun i u hu => by
        rw [← Array.getElem?_toList]
        exact drop_take_get hu
      have hlt : (ρ o).blk < w.heap.size := (Array.getElem?_eq_some_iff.1 hh).1
      refine ⟨A, cap, _, rfl, ⟨hlen, h1, h2, .inr ⟨_, cur, E, fz, hA, hh, hz, by omega, rfl⟩⟩, fun _ => by rw [hF]; simp, ⟨hlen, h1, h2, Nat.le_refl _, fun _ => ⟨_, _, hA, hlt, fun i u hu => ?_⟩⟩, fun i u hu => ?_⟩
      · rw [cell_of_row w _ _ cur E fz hh]
        exact hget i u hu
      · have hi : i < len * (s.sh o).esz := by rw [← hlen]; exact (List.getElem?_eq_some_iff.1 hu).1
        obtain ⟨u', hu', hr⟩ := h.cell ho (i := off + i) (by omega) (hsc i hi)
        rw [cell_of_row w _ _ cur E fz hh, ← Nat.add_assoc, hget i u hu] at hu'
        injection hu' with hu'
        subst hu'
        exact hr

theorem apn_core (h : RepW C s ρ S Φ w) (o : Nat) {T T2 E ty : TypeId} {z : Value} {esz by_ : Nat} (bt : SlTy C.P T E z esz by_) {A : Option Addr} {n cap b : Nat} {xs : List Value} (own : RowX w esz A n cap xs b) (hb : 0 < cap → (s.ob o).ct.isSome = true ∧ b ∈ Φ o)
    {x2 : Value} {m : Nat} {ys : List Value} (src : Src C.P w T2 x2 esz m ys) (hy : ys.length = m * esz) (h1 : ∀ u ∈ ys, u.oneCell' = true) (hlen : n + m ≤ maxLen) (hbytes : (n + m) * by_ ≤ 140737488355328) (c : Cont) (hfit : Fits w S ρ s.sh (xs ++ ys).toArray c) (hcl : c.len = (xs ++ ys).length) :
    Outc C s S ρ w ((Builtin.append_ #[T, T2] ty #[.slice A n cap, x2]).run C.P w) (s.lay1 o esz c) (.sl o ((s.sh o).gen + 1) 0 (n + m)) := by
  obtain ⟨A', cap', w', hr, c1, c2, hos, htape, hout, hsz, hcase⟩ := run_append_x (P := C.P) (w := w) (ty := ty) bt own src hy h1 hlen hbytes
  have hxy : (xs ++ ys).length = (n + m) * esz := by rw [List.length_append, own.1, hy, Nat.add_mul]
  have hw : ∀ k, k < w.heap.size → ((s.ob o).ct.isSome = true → k ∉ Φ o) → w'.heap[k]? = w.heap[k]? := by
    intro k hk hn
    rcases hcase with ⟨_, _, e⟩ | ⟨b', off, cur, E', fz, _, _, _, _, _, ⟨_, hold⟩ | ⟨hc0, rfl, _, _, hold⟩⟩
    · rw [e]
    · exact hold k hk
    · exact hold k (fun e => by
        obtain ⟨q1, q2⟩ := hb hc0
        exact hn q1 (e ▸ q2))
  have hszs : Szs w w' := by
    rcases hcase with ⟨_, _, e⟩ | ⟨b', off, cur, E', fz, _, hh, _, _, _, ⟨_, hold⟩ | ⟨hc0, rfl, _, ⟨cur0, E0, fz0, q1, q2⟩, hold⟩⟩
    · exact Szs.same (fun b _ => by rw [e])
    · exact Szs.same hold
    · intro k c1 E1 f1 hk
      by_cases hkb : k = b'
      · subst hkb
        rw [q1] at hk
        injection hk with hk
        injection hk with e1 e2 e3
        subst e1
        exact ⟨cur, E', fz, hh, q2⟩
      · exact ⟨c1, E1, f1, (hold k hkb).trans hk, rfl⟩
  have hwS : ∀ b, S b → w'.heap[b]? = w.heap[b]? := fun b hb => hw b (h.s1 b hb).1 (fun hl hm => by
    obtain ⟨c, hc⟩ := Option.isSome_iff_exists.1 hl
    exact ((h.own o c hc).2 b hm).1 hb)
  have hsh : (s.lay1 o esz c).sh = upd s.sh o ⟨(s.sh o).gen + 1, esz, c.len⟩ := by unfold St.lay1; rw [St.sh_lay]; rfl
  have hmono : ∀ (p : Pl) d v, RV w S ρ s.sh d v [] → RV w' S (upd ρ o p) (upd s.sh o ⟨(s.sh o).gen + 1, esz, c.len⟩) d v [] := fun p d v hr => by
    refine hr.mono (fun _ h => h) hwS (fun x => ?_) (by simp)
    by_cases hx : x = o
    · subst hx
      rw [upd_same, upd_same]
      exact ⟨by show _ ≤ _ + 1; omega, fun e => absurd e (by show ¬ (_ + 1 = _); omega)⟩
    · rw [upd_other _ _ _ hx, upd_other _ _ _ hx]
      exact ⟨Nat.le_refl _, fun _ => ⟨rfl, rfl⟩⟩
  rcases hcase with ⟨hnm, hc0, hheap⟩ | ⟨b', off, cur, E', fz, rfl, hh, hz, hfits, htk, hbc⟩
  · have hone := h.one (w' := w') o (s.nxt o esz c) ⟨0, 0, 0⟩ [] hos htape hout hsz hszs (.inl (by simp [St.nxt])) hw (fun c' hc' => ⟨by
      have e : c = c' := by simpa [St.nxt] using hc'
      subst e
      rfl, .inl ⟨by
      have e : c = c' := by simpa [St.nxt] using hc'
      subst e
      rw [hcl, hxy, hnm, Nat.zero_mul], rfl, rfl⟩⟩) (fun _ => ⟨by simp, by simp⟩)
    refine ⟨_, w', _, _, hr, hone.1, hone.2, .sl _ _ _ _ _ rfl (by rw [hsh, upd_same]; exact Nat.le_refl _) (fun _ => ⟨A', cap', rfl, c1, c2, ?_, .inl ⟨hnm, hc0⟩⟩)⟩
    rw [hnm]
    simp
  · have hlt : b' < w'.heap.size := (Array.getElem?_eq_some_iff.1 hh).1
    have hcur : ∀ i, i < (n + m) * esz → cur[off + i]? = (xs ++ ys)[i]? := fun i hi => by
      rw [← htk, List.getElem?_take, if_pos hi, List.getElem?_drop, Array.getElem?_toList]
    have hobr : ∀ c', (s.nxt o esz c).ct = some c' → ObR w' S (upd ρ o ⟨b', off, cur.size⟩) (upd s.sh o (s.nxt o esz c).sh) ⟨b', off, cur.size⟩ (s.nxt o esz c).sh c' [b'] := by
      intro c' hc'
      have e : c = c' := by simpa [St.nxt] using hc'
      subst e
      have hle : off + c.len ≤ cur.size := by
        rw [hcl, hxy]
        have := Nat.mul_le_mul_right esz c1
        omega
      cases c with
      | bytes l =>
        refine ⟨rfl, .inr ⟨cur, E', fz, [], hh, hz, rfl, hle, rfl, rfl, fun i hi => ?_⟩⟩
        have hf := hfit i hi
        rw [List.getElem?_toArray] at hf
        rw [hcur i (by rw [← hxy, ← hcl]; exact hi), hf]
      | cells cs =>
        refine ⟨rfl, .inr ⟨cur, E', fz, List.replicate cs.length [], hh, hz, rfl, hle, by rw [flat_nil], by simp, fun i c u f q1 q2 q3 => ?_⟩⟩
        rw [List.getElem?_replicate] at q3
        split at q3
        · rename_i hi
          injection q3 with q3
          subst q3
          rw [hcur i (by rw [← hxy, ← hcl]; exact hi)] at q2
          exact hmono _ c u (hfit i c u q1 (by rw [List.getElem?_toArray]; exact q2))
        · cases q3
    have hF : (s.nxt o esz c).ct.isSome = true → ([b'] : List Nat).Nodup ∧ ∀ b ∈ [b'], ¬ S b ∧ b < w'.heap.size ∧ (C.w0.heap.size ≤ b ∨ b ∈ C.M) ∧ b ∉ s.dk ∧ ∀ o' c', o' ≠ o → (s.ob o').ct = some c' → b ∉ Φ o' := by
      intro _
      refine ⟨by simp, fun b hb' => ?_⟩
      obtain rfl : b = b' := by simpa using hb'
      rcases hbc with ⟨rfl, _⟩ | ⟨hc0, rfl, _⟩
      · refine ⟨fun e => by have := (h.s1 _ e).1; omega, hlt, .inl h.size, fun e => by have := (Array.getElem?_eq_some_iff.1 (h.dk _ e)).1; omega, fun o' c' ho hc' hm => ?_⟩
        have := ((h.own o' c' hc').2 _ hm).2.1
        omega
      · obtain ⟨q1, q2⟩ := hb hc0
        obtain ⟨c0, hc0'⟩ := Option.isSome_iff_exists.1 q1
        have := (h.own o c0 hc0').2 _ q2
        exact ⟨this.1, hlt, this.2.2.1, this.2.2.2, fun o' c' ho hc' => h.dis o o' c0 c' hc0' hc' (Ne.symm ho) _ q2⟩
    have hone := h.one (w' := w') o (s.nxt o esz c) ⟨b', off, cur.size⟩ [b'] hos htape hout hsz hszs (.inl (by simp [St.nxt])) hw hobr hF
    exact ⟨_, w', _, _, hr, hone.1, hone.2, lay_sl o esz c ⟨b', off, cur.size⟩ (n + m) cap' c1 c2 (by rw [hcl, hxy]; exact Nat.le_refl _) hfits⟩

/-- Bytes handed to append or copy. -/
theorem bsrc_ok (h : RepW C s ρ S Φ w) {T : TypeId} {y : D} {g : Prop} {l : List UInt8} {R : List Nat} (e : bsrc (tiOf C.P) s.ob T y = some (g, l, R)) (hg : g) {v : Value} (hr : RV w S ρ s.sh y v []) :
    Src C.P w T v 1 l.length (u8s l) ∧ bytN y = l.length := by
  unfold bsrc at e
  split at e
  · rename_i b ht
    injection e with e; injection e with e1 e2; injection e2 with e2 e3; subst e2
    obtain rfl := inv_str hr
    exact ⟨src_string (ti_str ht) _, rfl⟩
  · rename_i el y' ht
    obtain ⟨A, n, cap, rfl, hrd⟩ := byt_ok h e hg hr
    refine ⟨by have := hrd.len; subst this; exact src_slice (ti_slice ht) hrd.v, ?_⟩
    unfold byt at e
    split at e
    · injection e with e; injection e with e1 e2; injection e2 with e2 e3; subst e2; rfl
    · injection e with e; injection e with e1 e2; injection e2 with e2 e3; subst e2; rfl
    · rename_i o g' off len
      split at e
      · injection e with e; injection e with e1 e2; injection e2 with e2 e3; subst e1; subst e2
        obtain ⟨A', cap', e5, _⟩ := inv_sl hr hg.1
        injection e5 with e5 e6 e7
        rw [hrd.len, e6]
        rfl
      · cases e
    · cases e
  · cases e
theorem slTy_of {P : Program} {T E : TypeId} (ht : (tiOf P T).ty = .slice E) (hz : (tiOf P E).zero ≠ .bot) (hc : (tiOf P E).zero.cells.length = (tiOf P E).sz) (hsc : (tiOf P E).zero.cells.all D.sc = true) (h0 : 0 < (tiOf P E).sz) : ∃ z, SlTy P T E z (tiOf P E).sz (tiOf P E).by_ := by
  obtain ⟨i, z, hi, hs, hb, hz', hzv⟩ := ti_zero hz
  refine ⟨z, ti_slice ht, by rw [hi]; simp [hz', hs, hb], ?_, h0⟩
  have hr : RV (default : World) (fun _ => False) (fun _ => ⟨0, 0, 0⟩) (fun _ => ⟨0, 0, 0⟩) (tiOf P E).zero z [] := by rw [← hzv]; exact ofVal_ok z
  have := (cells_ok hr hsc).1
  rw [← Array.length_toList, this, hc]
theorem apb_ok (h : RepW C s ρ S Φ w) {t : Nat} {T T2 ty : TypeId} {x y : D} {g : Prop} {o : Nat} {c : Cont} {n : Nat} {R : List Nat} (e : apbD (tiOf C.P) s.ob t T T2 x y = some (g, o, c, n, R)) (hg : g) {vx vy : Value} (hx : RV w S ρ s.sh x vx []) (hy : RV w S ρ s.sh y vy []) :
    Outc C s S ρ w ((Builtin.append_ #[T, T2] ty #[vx, vy]).run C.P w) (s.lay1 o 1 c) (.sl o ((s.sh o).gen + 1) 0 n) := by
  unfold apbD at e
  split at e
  · rename_i el gy yl Ry ht hb
    split at e
    · injection e with e; injection e with e1 e2; injection e2 with e2 e3; injection e3 with e3 e4; injection e4 with e4 e5; subst e1; subst e2; subst e3; subst e4
      obtain ⟨g1, g2, g3, g4, g5⟩ := hg
      obtain ⟨hsrc, hn⟩ := bsrc_ok h hb g1 hy
      obtain rfl := inv_nilS hx
      obtain ⟨z, hz⟩ := slTy_of (P := C.P) ht (by rw [g2]; simp) (by rw [g2, g3]; rfl) (by rw [g2]; rfl) (by omega)
      rw [g3, g4] at hz
      have := apn_core (ty := ty) h t hz (A := none) (n := 0) (cap := 0) (b := 0) (xs := []) ⟨by simp, Nat.le_refl _, by simp [maxLen], .inl ⟨rfl, rfl⟩⟩ (fun h => absurd h (by omega)) hsrc (by simp [u8s]) (u8s_one yl) (by simp [maxLen]; omega) (by omega) (.bytes yl) (fun i hi => by
        rw [List.getElem?_toArray, List.nil_append, u8s_get, gb_of hi]; rfl) (by simp [Cont.len, u8s])
      rw [Nat.zero_add, ← hn] at this
      exact this
    · rename_i o' g' off len
      split at e
      · rename_i l ho
        injection e with e; injection e with e1 e2; injection e2 with e2 e3; injection e3 with e3 e4; injection e4 with e4 e5; subst e1; subst e2; subst e3; subst e4
        obtain ⟨g1, gg, ge, g2, g3, g4, g5⟩ := hg
        obtain ⟨hsrc, hn⟩ := bsrc_ok h hb g1 hy
        obtain ⟨z, hz⟩ := slTy_of (P := C.P) ht (by rw [g2]; simp) (by rw [g2, g3]; rfl) (by rw [g2]; rfl) (by omega)
        rw [g3, g4] at hz
        have hes : (s.sh o').esz = 1 := ge
        obtain ⟨A, cap, xs, rfl, hrow, hbb, hrd, hxr⟩ := h.row ho (inv_sl hx gg) (by omega) (fun i _ => rfl)
        rw [hes] at hrow hrd
        have hxl := hrow.1
        rw [Nat.mul_one] at hxl
        have hll : off + len ≤ l.length := by
          obtain ⟨_, _, _, _, _, q, _⟩ := inv_sl hx gg
          have hcl : (s.sh o').clen = l.length := (h.ob o' _ ho).1
          rw [hes] at q
          omega
        have hxs : xs = u8s ((l.drop off).take len) := by
          apply List.ext_getElem?
          intro i
          rcases Nat.lt_or_ge i len with hi | hi
          · have hix : i < xs.length := by omega
            have h1 := hxr i _ (List.getElem?_eq_getElem hix)
            rw [List.getElem?_eq_getElem hix, u8s_get, List.getElem?_take, if_pos hi, List.getElem?_drop, gb_of (show off + i < l.length by omega), inv_u8 h1]
            rfl
          · rw [List.getElem?_eq_none (by omega), List.getElem?_eq_none (by rw [u8s_length, List.length_take]; omega)]
        subst hxs
        have hxl2 : ((l.drop off).take len).length = len := by rw [List.length_take, List.length_drop]; omega
        have := apn_core (ty := ty) h o' hz hrow (fun h0 => ⟨by rw [ho]; rfl, hbb h0⟩) hsrc (by simp [u8s]) (u8s_one yl) (by simp [maxLen]; omega) (by omega) (.bytes ((l.drop off).take len ++ yl)) (fun i hi => by
          rw [List.getElem?_toArray, ← u8s_append, u8s_get, gb_of hi]; rfl) (by rw [← u8s_append]; simp [Cont.len, u8s])
        rw [← hn] at this
        exact this
      · cases e
    · cases e
  · cases e
/-- Elements handed to append. -/
theorem els_ok (h : RepW C s ρ S Φ w) {T E : TypeId} (hT : (tiOf C.P T).ty = .slice E) {sz : Nat} (h0 : 0 < sz) {y : D} {g : Prop} {cs : List D} {n : Nat} {R : List Nat} (e : els s.ob sz y = some (g, cs, n, R)) (hg : g) (hsc : cs.all D.sc = true) {v : Value} (hr : RV w S ρ s.sh y v []) :
    ∃ xs, Src C.P w T v sz n xs ∧ PR w S ρ s.sh cs xs ∧ xs.length = n * sz := by
  unfold els at e
  split at e
  · injection e with e; injection e with e1 e2; injection e2 with e2 e3; injection e3 with e3 e4; subst e2; subst e3
    obtain rfl := inv_nilS hr
    exact ⟨[], src_slice (ti_slice hT) (B := 0) ⟨by simp, Nat.le_refl _, by simp [maxLen], Nat.zero_le _, fun h => absurd h (by omega)⟩, PR.nil, by simp⟩
  · rename_i s' m cs'
    injection e with e; injection e with e1 e2; injection e2 with e2 e3; injection e3 with e3 e4; subst e1; subst e2; subst e3
    subst hg
    cases hr with
    | ros _ _ _ A cap b off us hl hn hm hA hc hr =>
      refine ⟨(List.range (m * s')).map us, src_slice (ti_slice hT) (B := w.heap.size) ⟨by simp, hn, hm, Nat.le_refl _, fun h0' => ?_⟩, ⟨by simp [hl], fun i c u h1 h2 => ?_⟩, by simp⟩
      · obtain ⟨rfl, hb⟩ := hA h0'
        refine ⟨b, off, rfl, (h.s1 b hb).1, fun i u hu => ?_⟩
        have hi : i < m * s' := by
          have := (List.getElem?_eq_some_iff.1 hu).1
          simpa using this
        simp [hi] at hu
        subst hu
        exact hc h0' i _ (List.getElem?_eq_getElem (by omega))
      · have hi : i < m * s' := by rw [← hl]; exact (List.getElem?_eq_some_iff.1 h1).1
        simp [hi] at h2
        subst h2
        exact hr i c h1
  · rename_i s' m f
    injection e with e; injection e with e1 e2; injection e2 with e2 e3; injection e3 with e3 e4; subst e1; subst e2; subst e3
    obtain ⟨rfl, rfl⟩ := hg
    cases hr with
    | rof _ _ _ A cap b off us hn hm hp hA hc hr =>
      refine ⟨(List.range m).map (fun i => us i 0), src_slice (ti_slice hT) (B := w.heap.size) ⟨by simp, hn, hm, Nat.le_refl _, fun h0' => ?_⟩, ⟨by simp, fun i c u h1 h2 => ?_⟩, by simp⟩
      · obtain ⟨rfl, hb⟩ := hA h0'
        refine ⟨b, off, rfl, (h.s1 b hb).1, fun i u hu => ?_⟩
        have hi : i < m := by
          have := (List.getElem?_eq_some_iff.1 hu).1
          simpa using this
        simp [hi] at hu
        subst hu
        have := hc i 0 hi (by omega)
        simpa using this
      · have hi : i < m := by
          have := (List.getElem?_eq_some_iff.1 h1).1
          simpa using this
        simp [hi] at h1 h2
        subst h1; subst h2
        exact hr i 0 hi (by omega)
  · rename_i o g' off len
    split at e
    · rename_i cs' ho
      injection e with e; injection e with e1 e2; injection e2 with e2 e3; injection e3 with e3 e4; subst e1; subst e2; subst e3
      obtain ⟨g1, g2⟩ := hg
      have hes : (s.sh o).esz = sz := g2
      have hsl := inv_sl hr g1
      have hll : off + len * sz ≤ cs'.length := by
        obtain ⟨_, _, _, _, _, q, _⟩ := hsl
        have hcl : (s.sh o).clen = cs'.length := (h.ob o _ ho).1
        rw [hes] at q
        omega
      have hat : ∀ i, i < len * sz → ((cs'.drop off).take (len * sz))[i]? = some (Cont.at_ (.cells cs') (off + i)) := fun i hi => by
        rw [List.getElem?_take, if_pos hi, List.getElem?_drop]
        exact getD_some (by omega)
      obtain ⟨A, cap, xs, rfl, hrow, hbb, hrd, hxr⟩ := h.row ho hsl (by omega) (fun i hi => by
        rw [hes] at hi
        exact List.all_eq_true.1 hsc _ (List.mem_of_getElem? (hat i hi)))
      rw [hes] at hrow hrd
      have hlc : ((cs'.drop off).take (len * sz)).length = len * sz := by rw [List.length_take, List.length_drop]; omega
      refine ⟨xs, src_slice (ti_slice hT) hrd, ⟨by rw [hrow.1, hlc], fun i c u h1 h2 => ?_⟩, hrow.1⟩
      have hi : i < len * sz := by rw [← hlc]; exact (List.getElem?_eq_some_iff.1 h1).1
      rw [hat i hi] at h1
      injection h1 with h1
      subst h1
      exact hxr i u h2
    · cases e
  · cases e
theorem pr_fits {H : Nat → Sh} {cs : List D} {vs : List Value} (h : PR w S ρ H cs vs) : Fits w S ρ H vs.toArray (.cells cs) ∧ (Cont.cells cs).len = vs.length :=
  ⟨fun i c u h1 h2 => h.2 i c u h1 (by rwa [List.getElem?_toArray] at h2), h.1.symm⟩
theorem apc_ok (h : RepW C s ρ S Φ w) {t : Nat} {T T2 ty : TypeId} {x y : D} {g : Prop} {o esz : Nat} {c : Cont} {n : Nat} {R : List Nat} (e : apcD (tiOf C.P) s.ob t T T2 x y = some (g, o, esz, c, n, R)) (hg : g) {vx vy : Value} (hx : RV w S ρ s.sh x vx []) (hy : RV w S ρ s.sh y vy []) :
    Outc C s S ρ w ((Builtin.append_ #[T, T2] ty #[vx, vy]).run C.P w) (s.lay1 o esz c) (.sl o ((s.sh o).gen + 1) 0 n) := by
  unfold apcD at e
  split at e
  · rename_i el ht
    split at e
    · rename_i gy ys ny Ry he
      have hzne : (tiOf C.P el).zero.cells.all D.sc = true → (tiOf C.P el).zero ≠ .bot := fun h e => by rw [e] at h; simp [D.cells, D.sc] at h
      split at e
      · injection e with e; injection e with e1 e2; injection e2 with e2 e3; injection e3 with e3 e4; injection e4 with e4 e5; injection e5 with e5 e6; subst e1; subst e2; subst e3; subst e4; subst e5
        obtain ⟨g1, gT, g2, g3, g4, g5, g6, g7⟩ := hg
        obtain ⟨xs, hsrc, hpr, hxl⟩ := els_ok h gT g3 he g1 g2 hy
        obtain rfl := inv_nilS hx
        obtain ⟨z, hz⟩ := slTy_of (P := C.P) ht (hzne g5) g4 g5 g3
        obtain ⟨f1, f2⟩ := pr_fits hpr
        have hm : ny ≤ maxLen := by have := Nat.le_mul_of_pos_right ny g6; simp [maxLen]; omega
        have := apn_core (ty := ty) h t hz (A := none) (n := 0) (cap := 0) (b := 0) (xs := []) ⟨by simp, Nat.le_refl _, by simp [maxLen], .inl ⟨rfl, rfl⟩⟩ (fun h => absurd h (by omega)) hsrc hxl (hpr.one_ g2) (by omega) (by rw [Nat.zero_add]; exact g7) (.cells ys) (by rw [List.nil_append]; exact f1) (by rw [List.nil_append]; exact f2)
        rw [Nat.zero_add] at this
        exact this
      · rename_i o' g' off len
        split at e
        · rename_i cs ho
          injection e with e; injection e with e1 e2; injection e2 with e2 e3; injection e3 with e3 e4; injection e4 with e4 e5; injection e5 with e5 e6; subst e1; subst e2; subst e3; subst e4; subst e5
          obtain ⟨g1, gT, g2, gs, gg, ge, g3, g4, g5, g6, g7⟩ := hg
          obtain ⟨xs, hsrc, hpr, hxl⟩ := els_ok h gT g3 he g1 g2 hy
          obtain ⟨z, hz⟩ := slTy_of (P := C.P) ht (hzne g5) g4 g5 g3
          have hes : (s.sh o').esz = (tiOf C.P el).sz := ge
          have hsl := inv_sl hx gg
          have hll : off + len * (tiOf C.P el).sz ≤ cs.length := by
            obtain ⟨_, _, _, _, _, q, _⟩ := hsl
            have hcl : (s.sh o').clen = cs.length := (h.ob o' _ ho).1
            rw [hes] at q
            omega
          have hat : ∀ i, i < len * (tiOf C.P el).sz → ((cs.drop off).take (len * (tiOf C.P el).sz))[i]? = some (Cont.at_ (.cells cs) (off + i)) := fun i hi => by
            rw [List.getElem?_take, if_pos hi, List.getElem?_drop]
            exact getD_some (by omega)
          obtain ⟨A, cap, us, rfl, hrow, hbb, hrd, hxr⟩ := h.row ho hsl (by omega) (fun i hi => by
            rw [hes] at hi
            exact List.all_eq_true.1 gs _ (List.mem_of_getElem? (hat i hi)))
          rw [hes] at hrow hrd
          have hlc : ((cs.drop off).take (len * (tiOf C.P el).sz)).length = len * (tiOf C.P el).sz := by rw [List.length_take, List.length_drop]; omega
          have hpx : PR w S ρ s.sh ((cs.drop off).take (len * (tiOf C.P el).sz)) us := ⟨by rw [hrow.1, hlc], fun i c u h1 h2 => by
            have hi : i < len * (tiOf C.P el).sz := by rw [← hlc]; exact (List.getElem?_eq_some_iff.1 h1).1
            rw [hat i hi] at h1
            injection h1 with h1
            subst h1
            exact hxr i u h2⟩
          obtain ⟨f1, f2⟩ := pr_fits (hpx.append hpr)
          have hm : len + ny ≤ maxLen := by have := Nat.le_mul_of_pos_right (len + ny) g6; simp [maxLen]; omega
          exact apn_core (ty := ty) h o' hz hrow (fun h0 => ⟨by rw [ho]; rfl, hbb h0⟩) hsrc hxl (hpr.one_ g2) hm g7 _ f1 f2
        · cases e
      · cases e
    · cases e
  · cases e

/-- 'copy(x, y)', of bytes. -/
def cpbD (Ti : Nat → TI) (O : Nat → Ob) (T T2 : TypeId) (x y : D) : Option (Prop × Nat × Ob × D × List Nat) :=
  match (Ti T).ty, bsrc Ti O T2 y, x with
  | .slice e, some (gy, yl, Ry), .sl o g off len =>
    match (O o).ct with
    | some (.bytes l) => some ((gy ∧ g = (O o).sh.gen ∧ (O o).sh.esz = 1 ∧ (Ti e).sz = 1), o, ⟨(O o).sh, some (.bytes (l.take off ++ yl.take len ++ l.drop (off + min yl.length len)))⟩, .int .i64 (min yl.length len : Nat), o :: Ry)
    | _ => none
  | _, _, _ => none
theorem relay (h : RepW C s ρ S Φ w) (o : Nat) {c : Cont} (ho : (s.ob o).ct = some c) : RepW C (s.lay o ⟨s.sh o, some c⟩) ρ S Φ w ∧ ∀ d v, RV w S ρ s.sh d v [] → RV w S ρ (s.lay o ⟨s.sh o, some c⟩).sh d v [] := by
  have hone := h.one (w' := w) o ⟨s.sh o, some c⟩ (ρ o) (Φ o) rfl rfl rfl (Nat.le_refl _) (Szs.refl w) (.inr ⟨rfl, rfl⟩) (fun _ _ _ => rfl) (fun c' hc' => by
    have e : c = c' := by simpa using hc'
    subst e
    rw [upd_self]
    have : upd s.sh o (⟨s.sh o, some c⟩ : Ob).sh = s.sh := upd_self s.sh o
    rw [this]
    exact h.ob o c ho) (fun _ => ⟨(h.own o c ho).1, fun b hb => ⟨((h.own o c ho).2 b hb).1, ((h.own o c ho).2 b hb).2.1, ((h.own o c ho).2 b hb).2.2.1, ((h.own o c ho).2 b hb).2.2.2, fun o' c' hne hc' => h.dis o o' c c' ho hc' (Ne.symm hne) b hb⟩⟩)
  rw [upd_self, upd_self] at hone
  exact hone
theorem cpb_ok (h : RepW C s ρ S Φ w) {T T2 ty : TypeId} {x y : D} {g : Prop} {o : Nat} {ob : Ob} {d : D} {R : List Nat} (e : cpbD (tiOf C.P) s.ob T T2 x y = some (g, o, ob, d, R)) (hg : g) {vx vy : Value} (hx : RV w S ρ s.sh x vx []) (hy : RV w S ρ s.sh y vy []) :
    Outc C s S ρ w ((Builtin.copy_ #[T, T2] ty #[vx, vy]).run C.P w) (s.lay o ob) d := by
  unfold cpbD at e
  split at e
  · rename_i el gy yl Ry o' g' off len ht hb
    split at e
    · rename_i l ho
      injection e with e; injection e with e1 e2; injection e2 with e2 e3; injection e3 with e3 e4; injection e4 with e4 e5; subst e1; subst e2; subst e3; subst e4
      obtain ⟨g1, gg, ge, g3⟩ := hg
      obtain ⟨hsrc, hn⟩ := bsrc_ok h hb g1 hy
      have hes : (s.sh o').esz = 1 := ge
      have hsl := inv_sl hx gg
      obtain ⟨A, cap, rfl, q1, q2, q3, q4⟩ := id hsl
      have hcl : (s.sh o').clen = l.length := (h.ob o' _ ho).1
      rw [hes] at q3 q4
      have hmin : Nat.min yl.length len = min yl.length len := rfl
      have hcells := hsrc.cells (min yl.length len) w (by omega) rfl
      rw [Nat.mul_one] at hcells
      have hyt : (u8s yl).take (min yl.length len) = u8s (yl.take len) := by
        have e1 : u8s (yl.take len) = (u8s yl).take len := by simp [u8s, List.map_take]
        rw [e1, Nat.min_comm, ← List.take_take, List.take_of_length_le (Nat.le_of_eq (u8s_length yl))]
      rw [hyt] at hcells
      have hlt : (yl.take len).length = min yl.length len := by rw [List.length_take]; omega
      have hl0 := hsrc.len w
      obtain ⟨i, hi, hi2⟩ := sz_ne (P := C.P) (t := el) (by omega)
      have hso : (sizeOf el).run C.P w = .ok 1 w := run_sizeOf hi (by omega)
      by_cases h0 : 0 < min yl.length len
      · rcases q4 with ⟨q4, _⟩ | ⟨rfl, q5⟩
        · omega
        · obtain ⟨w', Φ', k1, k2, k3⟩ := splice_ok h ho off (ds := (yl.take len).map D.u8) (vs := u8s (yl.take len)) (PR.bytes _) (u8_isU8 _) (by simp [Cont.len]; omega) (by simp; omega) C.P
          simp only [Cont.splice, map_toU8, List.length_map, hlt] at k2 k3
          refine ⟨.int .i64 (min yl.length len : Nat), w', ρ, Φ', ?_, k2, k3, .int _ _⟩
          simp only [Builtin.copy_, Sem.run_bind, run_underlying (ti_slice ht), Result.andThen_ok, hl0, hso, hmin, hcells, k1, List.getElem?_toArray, List.getElem?_cons_zero, List.getElem?_cons_succ, Sem.run_pure, goInt]
      · have hm0 : min yl.length len = 0 := by omega
        have hyn : yl.take len = [] := List.eq_nil_of_length_eq_zero (by omega)
        rw [hyn] at hcells
        obtain ⟨k2, k3⟩ := relay h o' ho
        have he : (Cont.bytes (l.take off ++ yl.take len ++ l.drop (off + min yl.length len))) = .bytes l := by rw [hyn, hm0]; simp
        rw [he]
        refine ⟨.int .i64 (min yl.length len : Nat), w, ρ, Φ, ?_, k2, k3, .int _ _⟩
        simp only [Builtin.copy_, Sem.run_bind, run_underlying (ti_slice ht), Result.andThen_ok, hl0, hso, hmin, hcells, List.getElem?_toArray, List.getElem?_cons_zero, List.getElem?_cons_succ, Sem.run_pure, goInt]
        cases A <;> simp [storeCells, u8s]
    · cases e
  · cases e
/-- '[]byte("..")' of a constant: the row gets a mark behind its end. -/
def mkD (Ti : Nat → TI) (O : Nat → Ob) (T T' : TypeId) (x : D) : Option (Prop × Nat × Ob × D × List Nat) :=
  match (Ti T).ty, x with
  | .slice e, .sl o g off len =>
    match (O o).ct with
    | some (.bytes l) => some ((T = T' ∧ (Ti e).ty = .int .u8 ∧ g = (O o).sh.gen ∧ (O o).sh.esz = 1 ∧ 0 < len), o, ⟨(O o).sh, some (.bytes l)⟩, .sl o g off len, [o])
    | _ => none
  | _, _ => none
theorem mark_heap {w : World} {b n : Nat} {cur : Array Value} {E : TypeId} {fz : Nat × Nat} (hh : w.heap[b]? = some (.cells cur E fz)) (hz : Loose fz cur.size) (hn : n = cur.size) :
    ∃ fz', (w.freeze ⟨b, n, none⟩ 1).heap[b]? = some (.cells cur E fz') ∧ Loose fz' cur.size ∧ (∀ b', b' ≠ b → (w.freeze ⟨b, n, none⟩ 1).heap[b']? = w.heap[b']?) ∧ (w.freeze ⟨b, n, none⟩ 1).heap.size = w.heap.size := by
  subst hn
  obtain ⟨lo, hi⟩ := fz
  refine ⟨if lo == hi then (cur.size, cur.size + 1) else (min lo cur.size, max hi (cur.size + 1)), ?_, ?_, fun b' hb' => ?_, ?_⟩
  · unfold World.freeze
    rw [if_neg (by decide)]
    show (w.heap.modify b _)[b]? = _
    rw [Array.getElem?_modify, if_pos rfl, hh]
    rfl
  · unfold Loose at hz ⊢
    split
    · exact .inl (Nat.le_refl _)
    · rename_i hne
      have hne' : lo ≠ hi := by simpa using hne
      have hne' : ¬ hi = lo := fun e => hne' e.symm
      have : cur.size ≤ lo := by rcases hz with hz | hz; exact hz; exact absurd hz hne'
      exact .inl (by simp only [Nat.le_min]; exact ⟨this, Nat.le_refl _⟩)
  · unfold World.freeze
    rw [if_neg (by decide)]
    show (w.heap.modify b _)[b']? = _
    rw [Array.getElem?_modify, if_neg (fun e => hb' e.symm)]
  · unfold World.freeze
    rw [if_neg (by decide)]
    exact Array.size_modify
theorem mrk_ok (h : RepW C s ρ S Φ w) {T T' : TypeId} {x : D} {g : Prop} {o : Nat} {ob : Ob} {d : D} {R : List Nat} (e : mkD (tiOf C.P) s.ob T T' x = some (g, o, ob, d, R)) (hg : g) {v : Value} (hx : RV w S ρ s.sh x v []) :
    Outc C s S ρ w ((convert T T' v).run C.P w) (s.lay o ob) d := by
  unfold mkD at e
  split at e
  · rename_i el o' g' off len ht
    split at e
    · rename_i l ho
      injection e with e; injection e with e1 e2; injection e2 with e2 e3; injection e3 with e3 e4; injection e4 with e4 e5; subst e1; subst e2; subst e3; subst e4
      obtain ⟨rfl, g1, gg, ge, g0⟩ := hg
      have hsl := inv_sl hx gg
      obtain ⟨A, cap, rfl, q1, q2, q3, q4⟩ := id hsl
      obtain ⟨hcl, hrow⟩ := h.ob o' _ ho
      have hes : (s.sh o').esz = 1 := ge
      rw [hes] at q3 q4
      rcases q4 with ⟨q4, _⟩ | ⟨rfl, q5⟩
      · omega
      rcases hrow with ⟨z, _⟩ | ⟨cur, E, fz, Fs, hh, hz, hs, hb, hF, hct⟩
      · simp only [Cont.len] at z hcl; omega
      obtain ⟨fz', m1, m2, m3, m4⟩ := mark_heap hh hz rfl
      have hsh : w.shape? (ρ o').blk = some (E, cur.size) := by unfold World.shape?; rw [hh]
      have hrun : (convert T T (.slice (some ⟨(ρ o').blk, (ρ o').base + off, none⟩) len cap)).run C.P w = .ok (.slice (some ⟨(ρ o').blk, (ρ o').base + off, none⟩) len cap) (w.freeze ⟨(ρ o').blk, cur.size, none⟩ 1) := by
        simp [convert, run_underlying (ti_slice ht), run_underlying (ti_int g1), markStringish, hsh]
      generalize hw' : w.freeze ⟨(ρ o').blk, cur.size, none⟩ 1 = w' at *
      have hos : w'.os = w.os := by rw [← hw']; unfold World.freeze; rw [if_neg (by decide)]
      have htp : w'.tape = w.tape := by rw [← hw']; unfold World.freeze; rw [if_neg (by decide)]
      have hop : w'.output = w.output := by rw [← hw']; unfold World.freeze; rw [if_neg (by decide)]
      have hbl : (ρ o').blk ∈ Φ o' := by rw [hF]; simp
      have hone := h.one (w' := w') o' ⟨s.sh o', some (.bytes l)⟩ (ρ o') (Φ o') hos htp hop (Nat.le_of_eq m4.symm) (fun b cur' E' fz'' hb' => by
        by_cases hbb : b = (ρ o').blk
        · subst hbb
          rw [hh] at hb'
          injection hb' with hb'
          injection hb' with c1 c2 c3
          subst c1
          exact ⟨_, _, _, m1, rfl⟩
        · exact ⟨_, _, _, (m3 b hbb).trans hb', rfl⟩) (.inr ⟨rfl, rfl⟩) (fun b hb' hnb => m3 b fun e => hnb (by rw [ho]; rfl) (e ▸ hbl)) (fun c' hc' => by
        have e : Cont.bytes l = c' := by simpa using hc'
        subst e
        rw [upd_self]
        have : upd s.sh o' (⟨s.sh o', some (.bytes l)⟩ : Ob).sh = s.sh := upd_self s.sh o'
        rw [this]
        exact ⟨hcl, .inr ⟨cur, E, fz', Fs, m1, m2, hs, hb, hF, hct⟩⟩) (fun _ => ⟨(h.own o' _ ho).1, fun b hb' => ⟨((h.own o' _ ho).2 b hb').1, by rw [m4]; exact ((h.own o' _ ho).2 b hb').2.1, ((h.own o' _ ho).2 b hb').2.2.1, ((h.own o' _ ho).2 b hb').2.2.2, fun x c' hne hc' => h.dis o' x _ c' ho hc' (Ne.symm hne) b hb'⟩⟩)
      rw [upd_self, upd_self] at hone
      exact ⟨_, w', ρ, Φ, hrun, hone.1, hone.2, hone.2 _ _ hx⟩
    · cases e
  · cases e
theorem mkD_loc {P : Program} {O O' : Nat → Ob} {T T' : TypeId} {x : D} {g : Prop} {o : Nat} {b : Ob} {d : D} {R : List Nat} (e : mkD (tiOf P) O T T' x = some (g, o, b, d, R)) (h : ∀ o ∈ R, O' o = O o) : mkD (tiOf P) O' T T' x = some (g, o, b, d, R) := by
  unfold mkD at *
  split at e
  · rename_i el o' g' off len ht
    split at e
    · rename_i l ho
      injection e with e; injection e with e1 e2; injection e2 with e2 e3; injection e3 with e3 e4; injection e4 with e4 e5
      subst e1; subst e2; subst e3; subst e4; subst e5
      have q := h o' (by simp)
      simp only [ht, q, ho]
    · cases e
  · cases e
end
end Go.Proofs.Ytpmbdppppnbmnaa
