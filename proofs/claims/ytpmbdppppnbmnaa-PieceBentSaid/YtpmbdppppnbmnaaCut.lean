/- Slices, conversions between numbers, lengths, choices, equality of arrays of bytes: what they read as. Over any program. -/
import Derived.Test.YtpmbdppppnbmnaaAddr
import Derived.ChangeKeysEq
namespace Go.Proofs.Ytpmbdppppnbmnaa
open Go Go.RowKit
set_option linter.unusedVariables false
set_option linter.unusedSimpArgs false

def bnd : Option D → Option (Option Int)
  | none => some none
  | some (.int _ i) => some (some i)
  | _ => none
def lowI (l : Option Int) : Int := l.getD 0
def highI (h : Option Int) (n : Nat) : Int := h.getD n
def cutL {α : Type} (l h : Option Int) (s : Nat) (xs : List α) : List α :=
  match l, h with
  | none, none => xs
  | some a, none => xs.drop (a.toNat * s)
  | none, some b => xs.take (b.toNat * s)
  | some a, some b => (xs.take (b.toNat * s)).drop (a.toNat * s)
def cutB (l h : Option Int) (xs : List UInt8) : List UInt8 :=
  match l, h with
  | none, none => xs
  | some a, none => xs.drop a.toNat
  | none, some b => xs.take b.toNat
  | some a, some b => (xs.take b.toNat).drop a.toNat
def addO (l : Option Int) (off s : Nat) : Nat :=
  match l with
  | none => off
  | some i => off + i.toNat * s
def lenO (l h : Option Int) (n : Nat) : Nat :=
  match l, h with
  | none, none => n
  | some a, none => n - a.toNat
  | none, some b => b.toNat
  | some a, some b => b.toNat - a.toNat
def shO (l : Option Int) (f : Nat → Nat → D) : Nat → Nat → D :=
  match l with
  | none => f
  | some i => fun a b => f (i.toNat + a) b
theorem shO_eq (l : Option Int) (f : Nat → Nat → D) (a b : Nat) : shO l f a b = f ((lowI l).toNat + a) b := by
  cases l <;> simp [shO, lowI]
def okB (l h : Option Int) (n : Nat) : Prop :=
  match l, h with
  | none, none => True
  | some a, none => 0 ≤ a ∧ a ≤ n
  | none, some b => 0 ≤ b ∧ b ≤ n
  | some a, some b => 0 ≤ a ∧ a ≤ b ∧ b ≤ n
theorem okB_all {l h : Option Int} {n : Nat} (hb : okB l h n) : 0 ≤ lowI l ∧ lowI l ≤ highI h n ∧ highI h n ≤ n := by
  unfold okB at hb
  rcases l with _ | a <;> rcases h with _ | b <;> simp [lowI, highI] at hb ⊢ <;> omega
theorem cutB_eq (l h : Option Int) (xs : List UInt8) : cutB l h xs = (xs.take (highI h xs.length).toNat).drop (lowI l).toNat := by
  rcases l with _ | a <;> rcases h with _ | b <;> simp [cutB, lowI, highI]
theorem cutL_eq {α : Type} (l h : Option Int) (s n : Nat) (xs : List α) (hn : xs.length = n * s) : cutL l h s xs = (xs.take ((highI h n).toNat * s)).drop ((lowI l).toNat * s) := by
  rcases l with _ | a <;> rcases h with _ | b <;> simp [cutL, lowI, highI, ← hn]
theorem addO_eq (l : Option Int) (off s : Nat) : addO l off s = off + (lowI l).toNat * s := by
  rcases l with _ | a <;> simp [addO, lowI]
theorem lenO_eq (l h : Option Int) (n : Nat) : lenO l h n = (highI h n).toNat - (lowI l).toNat := by
  rcases l with _ | a <;> rcases h with _ | b <;> simp [lenO, lowI, highI]

/-- 'x[lo:hi]' -/
def slcD (Ti : Nat → TI) (O : Nat → Ob) (t : TypeId) (x : D) (lo hi : Option D) : Option (Prop × D × List Nat) :=
  match bnd lo, bnd hi with
  | some l, some h =>
    match (Ti t).ty, x with
    | .str, .str b => some (okB l h b.length, .str (cutB l h b), [])
    | .slice _, .rob b => some (okB l h b.length, .rob (cutB l h b), [])
    | .slice _, .nilS => some (okB l h 0, .nilS, [])
    | .slice e, .ros s n cs => some ((s = (Ti e).sz ∧ (Ti e).sz ≠ 0 ∧ okB l h n), .ros s (lenO l h n) (cutL l h s cs), [])
    | .slice e, .rof s n f => some ((s = (Ti e).sz ∧ (Ti e).sz ≠ 0 ∧ okB l h n), .rof s (lenO l h n) (shO l f), [])
    | .slice e, .sl o g off len => some ((g = (O o).sh.gen ∧ (O o).sh.esz = (Ti e).sz ∧ (Ti e).sz ≠ 0 ∧ okB l h len), .sl o g (addO l off (Ti e).sz) (lenO l h len), [o])
    | .arr n e, .ptr o g off => some ((g = (O o).sh.gen ∧ (O o).sh.esz = (Ti e).sz ∧ (Ti e).sz ≠ 0 ∧ n ≤ maxLen ∧ (O o).ct.isSome = true ∧ off + n * (Ti e).sz ≤ (O o).sh.clen ∧ okB l h n), .sl o g (addO l off (Ti e).sz) (lenO l h n), [o])
    | _, _ => none
  | _, _ => none

section
variable {P : Program} {w : World} {S : Nat → Prop} {ρ : Nat → Pl} {H : Nat → Sh}
/-- A bound, as a value. -/
def Bd (lo : Option Value) (l : Option Int) : Prop := (lo = none ∧ l = none) ∨ ∃ k i, lo = some (.int k i) ∧ l = some i
theorem bnd_ok {x : Option D} {l : Option Int} (h : bnd x = some l) {v : Option Value} (hv : ∀ d, x = some d → ∃ u, v = some u ∧ RV w S ρ H d u []) (hn : x = none → v = none) : Bd v l := by
  unfold bnd at h
  split at h
  · injection h with h; exact .inl ⟨hn rfl, h.symm⟩
  · injection h with h
    obtain ⟨u, rfl, hu⟩ := hv _ rfl
    exact .inr ⟨_, _, by rw [inv_int hu], h.symm⟩
  · cases h
theorem run_sb {k : IntKind} {i : Int} {y : Nat} {c : BoundsCode} (h0 : 0 ≤ i) (h1 : i ≤ y) : (Instr.sliceBound (.int k i) y c).run P w = .ok i.toNat w := run_sliceBound w k i y c h0 h1
theorem run_bds {b : Bool} {len cap : Nat} {lo hi : Option Value} {l h : Option Int} (h1 : Bd lo l) (h2 : Bd hi h) (hb : 0 ≤ lowI l ∧ lowI l ≤ highI h len ∧ highI h len ≤ cap) :
    (Instr.sliceBounds b len cap lo hi none).run P w = .ok ((lowI l).toNat, (highI h len).toNat, cap) w := by
  rcases h1 with ⟨rfl, rfl⟩ | ⟨k, i, rfl, rfl⟩ <;> rcases h2 with ⟨rfl, rfl⟩ | ⟨k', j, rfl, rfl⟩ <;> simp only [lowI, highI, Option.getD_none, Option.getD_some] at hb ⊢
  · simp [Instr.sliceBounds]
  · simp [Instr.sliceBounds, run_sb hb.2.1 hb.2.2]
  · simp [Instr.sliceBounds, run_sb hb.1 hb.2.1]
  · have hj : ((j.toNat : Nat) : Int) = j := by omega
    simp [Instr.sliceBounds, run_sb (show 0 ≤ j by omega) hb.2.2, run_sb hb.1 (show i ≤ ((j.toNat : Nat) : Int) by omega)]
theorem sat_slice {t e : TypeId} (ht : (tiOf P t).ty = .slice e) {A : Option Addr} {len cap : Nat} {lo hi : Option Value} {l h : Option Int} (h1 : Bd lo l) (h2 : Bd hi h) (hb : okB l h len) (hc : len ≤ cap) {s : Nat} (hs : (sizeOf e).run P w = .ok s w) :
    (Instr.sliceAt t (.slice A len cap) lo hi none).run P w = .ok (.slice (if cap = (lowI l).toNat then A else A.map (·.add ((lowI l).toNat * s))) ((highI h len).toNat - (lowI l).toNat) (cap - (lowI l).toNat)) w := by
  have hb' := okB_all hb
  simp [Instr.sliceAt, Instr.slice, run_underlying (ti_slice ht), run_bds h1 h2 (show 0 ≤ lowI l ∧ lowI l ≤ highI h len ∧ highI h len ≤ cap by omega), hs]
theorem sat_str {t : TypeId} (ht : (tiOf P t).ty = .str) {b : List UInt8} {lo hi : Option Value} {l h : Option Int} (h1 : Bd lo l) (h2 : Bd hi h) (hb : okB l h b.length) :
    (Instr.sliceAt t (.string (str b)) lo hi none).run P w = .ok (.string (str (cutB l h b))) w := by
  have hb' := okB_all hb
  have hz : (str b).size = b.length := rfl
  simp [Instr.sliceAt, Instr.slice, run_underlying (ti_str ht), hz, run_bds h1 h2 hb', str_extract, cutB_eq]
theorem sat_arr {t e : TypeId} {n : Nat} (ht : (tiOf P t).ty = .arr n e) {a : Addr} {lo hi : Option Value} {l h : Option Int} (h1 : Bd lo l) (h2 : Bd hi h) (hb : okB l h n) {s : Nat} (hs : (sizeOf e).run P w = .ok s w) :
    (Instr.sliceAt t (.pointer (some a)) lo hi none).run P w = .ok (.slice (some (if n = (lowI l).toNat then a else a.add ((lowI l).toNat * s))) ((highI h n).toNat - (lowI l).toNat) (n - (lowI l).toNat)) w := by
  have hb' := okB_all hb
  simp [Instr.sliceAt, run_underlying (ti_arr ht), Instr.sureAddr, run_bds h1 h2 hb', hs]
end

section
variable {C : Ctx} {s : St} {ρ : Nat → Pl} {S : Nat → Prop} {Φ : Nat → List Nat} {w : World}
theorem run_sz' {P : Program} {t : TypeId} (h : (tiOf P t).sz ≠ 0) : (sizeOf t).run P w = .ok (tiOf P t).sz w := by
  obtain ⟨i, hi, h1⟩ := sz_ne h
  exact run_sizeOf hi h1
theorem slcD_ok (h : RepW C s ρ S Φ w) {t : TypeId} {x : D} {lo hi : Option D} {g : Prop} {d : D} {R : List Nat} (e : slcD (tiOf C.P) s.ob t x lo hi = some (g, d, R)) (hg : g) {vx : Value} {vlo vhi : Option Value} (hx : RV w S ρ s.sh x vx [])
    (hlo : ∀ d, lo = some d → ∃ u, vlo = some u ∧ RV w S ρ s.sh d u []) (hlo' : lo = none → vlo = none) (hhi : ∀ d, hi = some d → ∃ u, vhi = some u ∧ RV w S ρ s.sh d u []) (hhi' : hi = none → vhi = none)
    (hsz : ∀ el, (tiOf C.P t).ty = .slice el → ∃ n, (sizeOf el).run C.P w = .ok n w ∧ (byt s.ob x ≠ none → n = 1)) :
    ∃ v', (Instr.sliceAt t vx vlo vhi none).run C.P w = .ok v' w ∧ RV w S ρ s.sh d v' [] := by
  unfold slcD at e
  split at e
  · rename_i l hh el eh
    have b1 := bnd_ok el hlo hlo'
    have b2 := bnd_ok eh hhi hhi'
    split at e
    · rename_i b ht
      injection e with e; injection e with e1 e2; injection e2 with e2 e3; subst e1; subst e2
      obtain rfl := inv_str hx
      exact ⟨_, sat_str ht b1 b2 hg, .str _⟩
    · rename_i q b ht
      injection e with e; injection e with e1 e2; injection e2 with e2 e3; subst e1; subst e2
      obtain ⟨n1, hn1, hn2⟩ := hsz q ht
      obtain rfl := hn2 (by simp [byt])
      have hb' := okB_all hg
      cases hx with
      | rob _ A n cap hr =>
        obtain rfl := hr.len
        refine ⟨_, sat_slice ht b1 b2 hg hr.le hn1, .rob _ _ _ _ ?_⟩
        have hle := hr.le
        have hmax := hr.max
        rw [cutB_eq]
        refine ⟨by rw [List.length_drop, List.length_take]; omega, by omega, by omega, fun hn => ?_⟩
        obtain ⟨bb, off, rfl, hbS, hc⟩ := hr.cells (by omega)
        rw [if_neg (by omega)]
        refine ⟨bb, off + (lowI l).toNat, by simp [add_lit], hbS, fun i hi => ?_⟩
        rw [Nat.add_assoc, hc _ (by omega)]
        congr 2
        simp only [gb, List.getD_eq_getElem?_getD, List.getElem?_drop, List.getElem?_take]
        rw [if_pos (by omega)]
    · rename_i q ht
      injection e with e; injection e with e1 e2; injection e2 with e2 e3; subst e1; subst e2
      obtain ⟨n1, hn1, hn2⟩ := hsz q ht
      obtain rfl := inv_nilS hx
      have hb' := okB_all hg
      refine ⟨_, sat_slice ht b1 b2 hg (Nat.le_refl _) hn1, ?_⟩
      have e1 : (lowI l).toNat = 0 := by omega
      have e2 : (highI hh 0).toNat = 0 := by omega
      rw [e1, e2]
      exact .nilS
    · rename_i q s' n cs ht
      injection e with e; injection e with e1 e2; injection e2 with e2 e3; subst e1; subst e2
      obtain ⟨g1, g2, g3⟩ := hg
      have hb' := okB_all g3
      cases hx with
      | ros _ _ _ A cap b off us hl hn hm hA hc hr =>
        refine ⟨_, sat_slice ht b1 b2 g3 hn (run_sz' g2), ?_⟩
        rw [lenO_eq, cutL_eq _ _ _ n _ hl, g1]
        have hcut : ∀ {i c}, (List.drop ((lowI l).toNat * (tiOf C.P q).sz) (List.take ((highI hh n).toNat * (tiOf C.P q).sz) cs))[i]? = some c → cs[(lowI l).toNat * (tiOf C.P q).sz + i]? = some c := fun {i c} h1 => by
          rw [List.getElem?_drop, List.getElem?_take] at h1
          split at h1
          · exact h1
          · cases h1
        refine .ros _ _ _ _ _ b (off + (lowI l).toNat * (tiOf C.P q).sz) (fun i => us ((lowI l).toNat * (tiOf C.P q).sz + i)) ?_ (by omega) (by omega) (fun hlt => ?_) (fun hlt i c h1 => ?_) (fun i c h1 => hr _ c (hcut h1))
        · rw [List.length_drop, List.length_take, hl, g1, Nat.sub_mul]
          have : (highI hh n).toNat * (tiOf C.P q).sz ≤ n * (tiOf C.P q).sz := Nat.mul_le_mul_right _ (by omega)
          omega
        · obtain ⟨rfl, hbS⟩ := hA (by omega)
          rw [if_neg (by omega)]
          exact ⟨by simp [add_lit], hbS⟩
        · have := hc (by omega) _ c (hcut h1)
          rw [← Nat.add_assoc] at this
          exact this
    · rename_i q s' n f ht
      injection e with e; injection e with e1 e2; injection e2 with e2 e3; subst e1; subst e2
      obtain ⟨g1, g2, g3⟩ := hg
      have hb' := okB_all g3
      cases hx with
      | rof _ _ _ A cap b off us hn hm hp hA hc hr =>
        refine ⟨_, sat_slice ht b1 b2 g3 hn (run_sz' g2), ?_⟩
        rw [lenO_eq, ← g1]
        refine .rof _ _ _ _ _ b (off + (lowI l).toNat * s') (fun i j => us ((lowI l).toNat + i) j) (by omega) (by omega) (fun i j hi hj => by rw [shO_eq]; exact hp _ _ (by omega) hj) (fun hlt => ?_) (fun i j hi hj => ?_) (fun i j hi hj => by rw [shO_eq]; exact hr _ _ (by omega) hj)
        · obtain ⟨rfl, hbS⟩ := hA (by omega)
          rw [if_neg (by omega)]
          exact ⟨by simp [add_lit], hbS⟩
        · have := hc ((lowI l).toNat + i) j (by omega) hj
          rw [Nat.add_mul] at this
          rw [← this]
          congr 2
          omega
    · rename_i q o g' off len ht
      injection e with e; injection e with e1 e2; injection e2 with e2 e3; subst e1; subst e2
      obtain ⟨g1, g2, g3, g4⟩ := hg
      have hb' := okB_all g4
      obtain ⟨A, cap, rfl, h1, h2, h3, h4⟩ := inv_sl hx g1
      rw [lenO_eq, addO_eq]
      refine ⟨_, sat_slice ht b1 b2 g4 h1 (run_sz' g3), .sl _ _ _ _ _ rfl (Nat.le_of_eq g1) (fun _ => ⟨_, _, rfl, ?_⟩)⟩
      have g2' : (s.sh o).esz = (tiOf C.P q).sz := g2
      rw [g2'] at h3 h4 ⊢
      have m1 : (highI hh len).toNat * (tiOf C.P q).sz ≤ len * (tiOf C.P q).sz := Nat.mul_le_mul_right _ (by omega)
      have m2 : ((highI hh len).toNat - (lowI l).toNat) * (tiOf C.P q).sz = (highI hh len).toNat * (tiOf C.P q).sz - (lowI l).toNat * (tiOf C.P q).sz := Nat.sub_mul _ _ _
      have m3 : (lowI l).toNat * (tiOf C.P q).sz ≤ (highI hh len).toNat * (tiOf C.P q).sz := Nat.mul_le_mul_right _ (by omega)
      refine ⟨by omega, by omega, by omega, ?_⟩
      rcases h4 with ⟨h5, h6⟩ | ⟨rfl, h6⟩
      · exact .inl ⟨by omega, by omega⟩
      · by_cases hcl : cap = (lowI l).toNat
        · exact .inl ⟨by omega, by omega⟩
        · right
          rw [if_neg hcl]
          refine ⟨by simp [add_lit, Nat.add_assoc], ?_⟩
          have m4 : (cap - (lowI l).toNat) * (tiOf C.P q).sz = cap * (tiOf C.P q).sz - (lowI l).toNat * (tiOf C.P q).sz := Nat.sub_mul _ _ _
          have m5 : (lowI l).toNat * (tiOf C.P q).sz ≤ cap * (tiOf C.P q).sz := Nat.mul_le_mul_right _ (by omega)
          omega
    · rename_i n q o g' off ht
      injection e with e; injection e with e1 e2; injection e2 with e2 e3; subst e1; subst e2
      obtain ⟨g1, g2, g3, gm, gl, g5, g4⟩ := hg
      have hb' := okB_all g4
      obtain rfl := inv_ptr hx g1
      rw [lenO_eq, addO_eq]
      refine ⟨_, sat_arr ht b1 b2 g4 (run_sz' g3), .sl _ _ _ _ _ rfl (Nat.le_of_eq g1) (fun _ => ⟨some (if n = (lowI l).toNat then _ else _), _, rfl, ?_⟩)⟩
      have g2' : (s.sh o).esz = (tiOf C.P q).sz := g2
      have g5' : off + n * (tiOf C.P q).sz ≤ (s.sh o).clen := g5
      rw [g2']
      have m1 : (highI hh n).toNat * (tiOf C.P q).sz ≤ n * (tiOf C.P q).sz := Nat.mul_le_mul_right _ (by omega)
      have m2 : ((highI hh n).toNat - (lowI l).toNat) * (tiOf C.P q).sz = (highI hh n).toNat * (tiOf C.P q).sz - (lowI l).toNat * (tiOf C.P q).sz := Nat.sub_mul _ _ _
      have m3 : (lowI l).toNat * (tiOf C.P q).sz ≤ (highI hh n).toNat * (tiOf C.P q).sz := Nat.mul_le_mul_right _ (by omega)
      refine ⟨by omega, by omega, by omega, ?_⟩
      by_cases hcl : n = (lowI l).toNat
      · exact .inl ⟨by omega, by omega⟩
      · right
        rw [if_neg hcl]
        refine ⟨by simp [add_lit, Nat.add_assoc], ?_⟩
        have m4 : (n - (lowI l).toNat) * (tiOf C.P q).sz = n * (tiOf C.P q).sz - (lowI l).toNat * (tiOf C.P q).sz := Nat.sub_mul _ _ _
        have m5 : (lowI l).toNat * (tiOf C.P q).sz ≤ n * (tiOf C.P q).sz := Nat.mul_le_mul_right _ (by omega)
        obtain ⟨c, hct⟩ := Option.isSome_iff_exists.1 gl
        obtain ⟨q1, q2⟩ := h.ob o c hct
        have m7 : (tiOf C.P q).sz ≤ n * (tiOf C.P q).sz := Nat.le_mul_of_pos_left _ (by omega)
        rcases q2 with ⟨q3, _⟩ | ⟨cur, E, fz, Fs, _, _, _, q3, _⟩
        · omega
        · omega
    · cases e
  · cases e
end
end Go.Proofs.Ytpmbdppppnbmnaa
