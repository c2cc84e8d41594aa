/- One operation reckoned as a whole; the steps of a region. Over any program. -/
import Derived.Test.YtpmbdppppnbmnaaOpc
namespace Go.Proofs.Ytpmbdppppnbmnaa
open Go Go.RowKit
set_option linter.unusedVariables false
set_option linter.unusedSimpArgs false

/-- What an operand reads as, over a table of globals. -/
def evg (G : Nat → Option D) (s : St) : Operand → D
  | .tmp t => s.slot t
  | .const v => ofVal v
  | .global g => match G g with | some cs => cs | none => .bot
  | .func f => .fn f
theorem ev_g (C : Ctx) (s : St) : ev C s = evg C.G s := by funext x; cases x <;> rfl
/-- A value, its form laid open. -/
def frc : D → Option D
  | .bot => some .bot
  | .bool b => some (.bool b)
  | .int k n => some (.int k n)
  | .u8 x => some (.u8 x)
  | .u32 x => some (.u32 x)
  | .str l => some (.str l)
  | .nilP => some .nilP
  | .nilS => some .nilS
  | .nilF => some .nilF
  | .fn f => some (.fn f)
  | .ptr o g off => some (.ptr o g off)
  | .sl o g off len => some (.sl o g off len)
  | .rob l => some (.rob l)
  | .ros s n cs => some (.ros s n cs)
  | .rop off cs => some (.rop off cs)
  | .rof s n f => some (.rof s n f)
  | .rpf k j s n f => some (.rpf k j s n f)
  | .rpb k l => some (.rpb k l)
  | .aggb l => some (.aggb l)
  | .agg cs => some (.agg cs)
  | .tup cs => some (.tup cs)
  | .iff c d => some (.iff c d)
  | .chunk f l n => some (.chunk f l n)
  | .ownb l => some (.ownb l)
  | .owns s n cs => some (.owns s n cs)
  | .ownp cs => some (.ownp cs)
theorem frc_eq (d : D) : frc d = some d := by cases d <;> rfl
theorem frc_ok {d d' : D} (h : frc d = some d') : d = d' := by rw [frc_eq] at h; injection h
def evf (G : Nat → Option D) (s : St) (x : Operand) : Option D := frc (evg G s x)
theorem evf_eq (G : Nat → Option D) (s : St) (x : Operand) : evf G s x = some (evg G s x) := frc_eq _
def frcL : List D → Option (List D)
  | [] => some []
  | d :: r => match frc d, frcL r with
    | some d, some r => some (d :: r)
    | _, _ => none
theorem frcL_eq : ∀ l : List D, frcL l = some l
  | [] => rfl
  | d :: r => by simp only [frcL, frc_eq, frcL_eq r]
def frcP : List (Nat × D) → Option (List (Nat × D))
  | [] => some []
  | (i, d) :: r => match frc d, frcP r with
    | some d, some r => some ((i, d) :: r)
    | _, _ => none
theorem frcP_eq : ∀ l : List (Nat × D), frcP l = some l
  | [] => rfl
  | (i, d) :: r => by simp only [frcP, frc_eq, frcP_eq r]

/-- guard, value, objects, objects looked at -/
abbrev OpR := Option (Prop × D × List (Nat × Ob) × List Nat)
def opt2 (r : Option (Prop × D)) : OpR := match r with | some (g, d) => some (g, d, [], []) | none => none
def opt3 (r : Option (Prop × D × List Nat)) : OpR := match r with | some (g, d, R) => some (g, d, [], R) | none => none
/-- An object laid anew. -/
def optN (s : St) (r : Option (Prop × Nat × Nat × Cont × Option Nat × List Nat)) : OpR :=
  match r with
  | some (g, o, esz, c, n, R) =>
    match s.ob o with
    | ⟨⟨γ, _, _⟩, _⟩ => some (g, (match n with | some n => .sl o (γ + 1) 0 n | none => .ptr o (γ + 1) 0), [(o, ⟨⟨γ + 1, esz, c.len⟩, some c⟩)], R)
  | none => none
def optO (r : Option (Prop × Nat × Ob × D × List Nat)) : OpR :=
  match r with
  | some (g, o, ⟨⟨γ, e, n⟩, ct⟩, d, R) => some (g, d, [(o, ⟨⟨γ, e, n⟩, ct⟩)], R)
  | none => none

def evO (G : Nat → Option D) (s : St) (x : Option Operand) : Option (Option D) :=
  match x with
  | none => some none
  | some x => match evf G s x with | some d => some (some d) | none => none
theorem evO_eq (G : Nat → Option D) (s : St) (x : Option Operand) : evO G s x = some (x.map (evg G s)) := by cases x <;> simp [evO, evf_eq]

def pickD (k : Nat) (c x y : D) : OpR :=
  match truth c, truth x, truth y with
  | some (cc, b), some (cx, bx), some (cy, by') => some ((cc = true ∧ (b = true → cx = true) ∧ (b = false → cy = true)), .bool (pkB k b bx by'), [], [])
  | _, _, _ => none
def convD (Ti : Nat → TI) (s : St) (dst : Option Nat) (T T' : TypeId) (x : D) : OpR :=
  match (Ti T).ty, (Ti T').ty with
  | .slice e0, .str => match byt s.ob x with | some (g, l, R) => some ((g ∧ (Ti e0).ty = .int .u8), .str l, [], R) | none => none
  | .str, .slice e0 => match x, dst with
    | .str l, some t => optN s (some (((Ti e0).ty = .int .u8 ∧ l.length ≤ 140737488355328), t, 1, .bytes l, some l.length, [t]))
    | _, _ => none
  | .slice _, .slice _ => optO (mkD Ti s.ob T T' x)
  | _, _ => opt2 (cvD Ti T T' x)
def builtD (Ti : Nat → TI) (s : St) (dst : Option Nat) (b : Builtin) (xs : List D) (ts : List TypeId) : OpR :=
  match b, xs, ts with
  | .len, [x], [t] => opt3 (lenD Ti s.ob t x)
  | .min, [x, y], _ => match minD x y with | some d => some (True, d, [], []) | none => none
  | .append, [x, y], [T, T2] =>
    match (Ti T).ty with
    | .slice e => match (Ti e).ty with
      | .int .u8 => match apbD Ti s.ob (dst.getD 0) T T2 x y with | some (g, o, c, n, R) => optN s (some (g, o, 1, c, some n, R)) | none => none
      | _ => match apcD Ti s.ob (dst.getD 0) T T2 x y with | some (g, o, e, c, n, R) => optN s (some (g, o, e, c, some n, R)) | none => none
    | _ => none
  | .copy, [x, y], [T, T2] => optO (cpbD Ti s.ob T T2 x y)
  | _, _, _ => none
def isAggb : D → Bool
  | .aggb _ => true
  | _ => false

/-- ONE OPERATION (but for calls of functions). -/
def opD (Ti : Nat → TI) (G : Nat → Option D) (s : St) (dst : Option Nat) (op : Op) : OpR :=
  match op with
  | .move x => match evf G s x with | some d => some (True, d, [], []) | none => none
  | .assign x => match evf G s x with | some d => some (True, d, [], []) | none => none
  | .pick c x0 y0 => match evf G s c, evf G s x0, evf G s y0 with | some c, some x, some y => pickD (pkK x0 y0) c x y | _, _, _ => none
  | .load t x => match evf G s x with | some x => opt3 (ldD Ti s.ob t x) | none => none
  | .fieldAddr t x f => match evf G s x with | some x => opt3 (fdaD Ti s.ob t x f) | none => none
  | .indexAddr t x y => match evf G s x, evf G s y with | some x, some y => opt3 (ixaD Ti s.ob t x y) | _, _ => none
  | .field t x f => match evf G s x with | some x => opt2 (fldD Ti t x f) | none => none
  | .index t x y => match evf G s x, evf G s y with | some x, some y => opt2 (idxD Ti t x y) | _, _ => none
  | .binOp op t x y _ => match evf G s x, evf G s y with
    | some x, some y => match isAggb x with
      | true => opt2 (eqaD Ti op t x y)
      | false => opt3 (binD s.sh (Ti t).ty op x y)
    | _, _ => none
  | .unOp op t x => match evf G s x with | some x => opt2 (unD op x) | none => none
  | .convert T T' x => match evf G s x with | some x => convD Ti s dst T T' x | none => none
  | .slice t x lo hi none => match evf G s x, evO G s lo, evO G s hi with
    | some x, some lo, some hi => match (Ti t).ty with
      | .slice el => match Nat.beq (Ti el).sz 1 with
        | true => opt3 (slcD Ti s.ob t x lo hi)
        | false => match slcD Ti s.ob t x lo hi with | some (g, d, R) => some ((g ∧ (Ti el).sz ≠ 0 ∧ byt s.ob x = none), d, [], R) | none => none
      | _ => opt3 (slcD Ti s.ob t x lo hi)
    | _, _, _ => none
  | .sliceToArrayPointer t x => match evf G s x with | some x => opt3 (apD Ti s.ob t x) | none => none
  | .nilCheck x => match evf G s x with
    | some x => match nckD s.ob x with | some (g, R) => some (g, x, [], R) | none => none
    | none => none
  | .extract x i => match evf G s x with
    | some (.tup cs) => match frc (cs.getD i .bot) with | some d => some (i < cs.length, d, [], []) | none => none
    | _ => none
  | .alloc T => match dst with
    | some t => match boxC (Ti T).zero with | some c => optN s (some (True, t, eszOf Ti T, c, none, [t])) | none => none
    | none => none
  | .box T x => match dst, evf G s x with
    | some t, some x => match boxC x with | some c => optN s (some (True, t, eszOf Ti T, c, none, [t])) | none => none
    | _, _ => none
  | .build T ps => match frcP (ps.toList.map fun p => (p.1, evg G s p.2)) with | some ps => opt2 (bldD Ti T ps) | none => none
  | .buildSlice T n ps => match dst, frcP (ps.toList.map fun p => (p.1, evg G s p.2)) with
    | some t, some ps => match bslD Ti T n ps with | some (g, esz, c) => optN s (some (g, t, esz, c, some n, [t])) | none => none
    | _, _ => none
  | .makeSlice T x y => match dst, evf G s x, evf G s y, (Ti T).ty with
    | some t, some (.int k n), some (.int k' n'), .slice e0 => optN s (some ((k = k' ∧ n = n' ∧ (Ti e0).zero = .u8 0 ∧ (Ti e0).sz = 1 ∧ (Ti e0).by_ = 1 ∧ 0 ≤ n ∧ n ≤ 140737488355328), t, 1, .bytes (List.replicate n.toNat 0), some n.toNat, [t]))
    | _, _, _, _ => none
  | .store T x y => match evf G s x, evf G s y with
    | some x, some y => match stoD Ti s.ob T x y with | some (g, o, b, R) => optO (some (g, o, b, .bot, R)) | none => none
    | _, _ => none
  | .call { callee := .builtin b, args := xs, argTypes := ts } => match frcL (xs.toList.map (evg G s)) with | some xs => builtD Ti s dst b xs ts.toList | none => none
  | _ => none

/-- The slots that an operation looks at. -/
def opsT (op : Op) : List Nat := op.operands.toList.flatMap opT

section
variable {C : Ctx} {s : St}
theorem Eff.weak {o : Oper} {d : D} {obs : List (Nat × Ob)} {T T' R R' : List Nat} (h : Eff C o s d obs T R) (hT : ∀ t ∈ T, t ∈ T') (hR : ∀ x ∈ R, x ∈ R') : Eff C o s d obs T' R' :=
  fun σ h1 h2 => h σ (fun t ht => h1 t (hT t ht)) (fun x hx => h2 x (hR x hx))
theorem optN_ok {r : Option (Prop × Nat × Nat × Cont × Option Nat × List Nat)} {g : Prop} {d : D} {obs : List (Nat × Ob)} {R : List Nat} (e : optN s r = some (g, d, obs, R)) :
    ∃ o esz c n, r = some (g, o, esz, c, n, R) ∧ d = (match n with | some n => .sl o ((s.ob o).sh.gen + 1) 0 n | none => .ptr o ((s.ob o).sh.gen + 1) 0) ∧ obs = [(o, nob s o esz c)] := by
  unfold optN at e
  split at e
  · rename_i g' o esz c n R'
    split at e
    rename_i γ _ _ _ ho
    injection e with e; injection e with e1 e2; injection e2 with e2 e3; injection e3 with e3 e4
    subst e1; subst e4
    refine ⟨o, esz, c, n, rfl, ?_, ?_⟩
    · rw [← e2, ho]
    · rw [← e3]; unfold nob; rw [ho]
  · cases e
theorem optO_ok {r : Option (Prop × Nat × Ob × D × List Nat)} {g : Prop} {d : D} {obs : List (Nat × Ob)} {R : List Nat} (e : optO r = some (g, d, obs, R)) : ∃ o b, r = some (g, o, b, d, R) ∧ obs = [(o, b)] := by
  unfold optO at e
  split at e
  · injection e with e; injection e with e1 e2; injection e2 with e2 e3; injection e3 with e3 e4
    subst e1; subst e2; subst e3; subst e4
    exact ⟨_, _, rfl, rfl⟩
  · cases e
theorem opt2_ok {r : Option (Prop × D)} {g : Prop} {d : D} {obs : List (Nat × Ob)} {R : List Nat} (e : opt2 r = some (g, d, obs, R)) : r = some (g, d) ∧ obs = [] ∧ R = [] := by
  unfold opt2 at e
  split at e
  · injection e with e; injection e with e1 e2; injection e2 with e2 e3; injection e3 with e3 e4
    subst e1; subst e2; subst e3; subst e4
    exact ⟨rfl, rfl, rfl⟩
  · cases e
theorem opt3_ok {r : Option (Prop × D × List Nat)} {g : Prop} {d : D} {obs : List (Nat × Ob)} {R : List Nat} (e : opt3 r = some (g, d, obs, R)) : r = some (g, d, R) ∧ obs = [] := by
  unfold opt3 at e
  split at e
  · injection e with e; injection e with e1 e2; injection e2 with e2 e3; injection e3 with e3 e4
    subst e1; subst e2; subst e3; subst e4
    exact ⟨rfl, rfl⟩
  · cases e
variable {ty : TypeId} {pos : String} {after : Array Edge} {gd : Option (Nat × Bool)}
theorem sub_r {T R : List Nat} : (∀ t ∈ T, t ∈ T) ∧ (∀ x ∈ R, x ∈ R) := ⟨fun _ h => h, fun _ h => h⟩
theorem optS_inj {a a' : Prop} {b b' : D} {c c' : List (Nat × Ob)} {d d' : List Nat} (e : (some (a, b, c, d) : OpR) = some (a', b', c', d')) : a = a' ∧ b = b' ∧ c = c' ∧ d = d' := by
  injection e with e; injection e with e1 e2; injection e2 with e2 e3; injection e3 with e3 e4
  exact ⟨e1, e2, e3, e4⟩

theorem opD_ok {dst : Option Nat} {op : Op} (hd : dstOk C.n dst) {g : Prop} {d : D} {obs : List (Nat × Ob)} {R : List Nat} (e : opD (tiOf C.P) C.G s dst op = some (g, d, obs, R)) (hg : g) (hs : ∀ T x y, op = .store T x y → dst = none) :
    Eff C ⟨dst, op, ty, pos, after, gd⟩ s d obs (opsT op) R := by
  unfold opD at e
  simp only [evf_eq, evO_eq, frcL_eq, frcP_eq, frc_eq, ← ev_g] at e
  split at e
  · obtain ⟨rfl, rfl, rfl, rfl⟩ := optS_inj e
    exact (eff_move _ hd).weak (by simp [opsT, Op.operands]) (by simp)
  · obtain ⟨rfl, rfl, rfl, rfl⟩ := optS_inj e
    exact (eff_assign _ hd).weak (by simp [opsT, Op.operands]) (by simp)
  · -- pick
    rename_i c x y
    unfold pickD at e
    split at e
    · rename_i cc b cx bx cy by' h1 h2 h3
      obtain ⟨rfl, rfl, rfl, rfl⟩ := optS_inj e
      exact (eff_pickB c x y h1 h2 h3 hg.1 hg.2.1 hg.2.2 hd).weak (by simp [opsT, Op.operands]) (by simp)
    · cases e
  · obtain ⟨h, rfl⟩ := opt3_ok e
    exact (eff_load _ _ h hg hd).weak (by simp [opsT, Op.operands]) (by simp)
  · obtain ⟨h, rfl⟩ := opt3_ok e
    exact (eff_fda _ _ _ h hg hd).weak (by simp [opsT, Op.operands]) (by simp)
  · obtain ⟨h, rfl⟩ := opt3_ok e
    exact (eff_ixa _ _ _ h hg hd).weak (by simp [opsT, Op.operands]) (by simp)
  · obtain ⟨h, rfl, rfl⟩ := opt2_ok e
    exact (eff_fld _ _ _ h hg hd).weak (by simp [opsT, Op.operands]) (by simp)
  · obtain ⟨h, rfl, rfl⟩ := opt2_ok e
    exact (eff_idx _ _ _ h hg hd).weak (by simp [opsT, Op.operands]) (by simp)
  · -- binOp
    split at e
    · obtain ⟨h, rfl, rfl⟩ := opt2_ok e
      exact (eff_eqa _ _ _ _ _ h hg hd).weak (by simp [opsT, Op.operands]) (by simp)
    · obtain ⟨h, rfl⟩ := opt3_ok e
      exact (eff_bin _ _ _ _ _ h hg hd).weak (by simp [opsT, Op.operands]) (by simp)
  · obtain ⟨h, rfl, rfl⟩ := opt2_ok e
    exact (eff_un _ _ _ h hg hd).weak (by simp [opsT, Op.operands]) (by simp)
  · -- convert
    unfold convD at e
    split at e
    · split at e
      · rename_i h1 h2 _ _ _ _ h3
        obtain ⟨rfl, rfl, rfl, rfl⟩ := optS_inj e
        exact (eff_b2s _ _ _ h1 h2 hg.2 h3 hg.1 hd).weak (by simp [opsT, Op.operands]) (by simp)
      · cases e
    · split at e
      · rename_i h1 h2 _ _ l t h3
        obtain ⟨o, esz, c, n, h, rfl, rfl⟩ := optN_ok e
        injection h with h; injection h with q1 q2; injection q2 with q2 q3; injection q3 with q3 q4; injection q4 with q4 q5; injection q5 with q5 q6
        subst q1; subst q2; subst q3; subst q4; subst q5; subst q6
        exact (eff_s2b _ _ _ h1 h2 hg.1 h3 hg.2 (hd _ rfl)).weak (by simp [opsT, Op.operands]) (by simp)
      · cases e
    · obtain ⟨o, b, h, rfl⟩ := optO_ok e
      exact (eff_mk _ _ _ h hg hd).weak (by simp [opsT, Op.operands]) (by simp)
    · obtain ⟨h, rfl, rfl⟩ := opt2_ok e
      exact (eff_cv _ _ _ h hg hd).weak (by simp [opsT, Op.operands]) (by simp)
  · -- slice
    rename_i t x lo hi
    have hsub : ∀ z ∈ opT x ++ (lo.elim [] opT) ++ (hi.elim [] opT), z ∈ opsT (.slice t x lo hi none) := by
      cases lo <;> cases hi <;> simp [opsT, Op.operands]
    split at e
    · rename_i el hel
      split at e
      · rename_i hb
        have h1 := Nat.eq_of_beq_eq_true hb
        obtain ⟨h, rfl⟩ := opt3_ok e
        exact (eff_slc _ _ _ _ h hg (fun el' h' => by rw [hel] at h'; injection h' with h'; subst h'; exact ⟨by omega, fun _ => h1⟩) hd).weak hsub (by simp)
      · split at e
        · rename_i h
          obtain ⟨rfl, rfl, rfl, rfl⟩ := optS_inj e
          obtain ⟨hg, h1, h2⟩ := hg
          exact (eff_slc _ _ _ _ h hg (fun el' h' => by rw [hel] at h'; injection h' with h'; subst h'; exact ⟨h1, fun hne => absurd h2 hne⟩) hd).weak hsub (by simp)
        · cases e
    · rename_i hne
      obtain ⟨h, rfl⟩ := opt3_ok e
      exact (eff_slc _ _ _ _ h hg (fun el' h' => absurd h' (hne el')) hd).weak hsub (by simp)
  · obtain ⟨h, rfl⟩ := opt3_ok e
    exact (eff_ap _ _ h hg hd).weak (by simp [opsT, Op.operands]) (by simp)
  · -- nilCheck
    split at e
    · rename_i h
      obtain ⟨rfl, rfl, rfl, rfl⟩ := optS_inj e
      exact (eff_nck _ h hg hd).weak (by simp [opsT, Op.operands]) (by simp)
    · cases e
  · -- extract
    split at e
    · rename_i cs h
      obtain ⟨rfl, rfl, rfl, rfl⟩ := optS_inj e
      injection h with h
      exact (eff_ext _ _ h hg hd).weak (by simp [opsT, Op.operands]) (by simp)
    · cases e
  · -- alloc
    split at e
    · split at e
      · rename_i h
        obtain ⟨o, esz, c, n, h', rfl, rfl⟩ := optN_ok e
        injection h' with h'; injection h' with q1 q2; injection q2 with q2 q3; injection q3 with q3 q4; injection q4 with q4 q5; injection q5 with q5 q6
        subst q1; subst q2; subst q3; subst q4; subst q5; subst q6
        exact (eff_alloc _ h (hd _ rfl)).weak (by simp) (by simp)
      · cases e
    · cases e
  · -- box
    split at e
    · rename_i hx
      injection hx with hx
      subst hx
      split at e
      · rename_i h
        obtain ⟨o, esz, c, n, h', rfl, rfl⟩ := optN_ok e
        injection h' with h'; injection h' with q1 q2; injection q2 with q2 q3; injection q3 with q3 q4; injection q4 with q4 q5; injection q5 with q5 q6
        subst q1; subst q2; subst q3; subst q4; subst q5; subst q6
        exact (eff_box _ _ h (hd _ rfl)).weak (by simp [opsT, Op.operands]) (by simp)
      · cases e
    · cases e
  · -- build
    obtain ⟨h, rfl, rfl⟩ := opt2_ok e
    refine (eff_build _ _ h hg hd).weak ?_ (by simp)
    intro z hz
    simp only [prtsT, List.mem_flatMap] at hz
    obtain ⟨p, hp, hz⟩ := hz
    simp only [opsT, Op.operands, List.mem_flatMap, List.mem_map]
    exact ⟨p.2, ⟨p, hp, rfl⟩, hz⟩
  · -- buildSlice
    split at e
    · rename_i hx
      injection hx with hx
      subst hx
      split at e
      · rename_i h
        obtain ⟨o, esz, c, n, h', rfl, rfl⟩ := optN_ok e
        injection h' with h'; injection h' with q1 q2; injection q2 with q2 q3; injection q3 with q3 q4; injection q4 with q4 q5; injection q5 with q5 q6
        subst q1; subst q2; subst q3; subst q4; subst q5; subst q6
        refine (eff_bslice _ _ _ h hg (hd _ rfl)).weak ?_ (by simp)
        intro z hz
        simp only [prtsT, List.mem_flatMap] at hz
        obtain ⟨p, hp, hz⟩ := hz
        simp only [opsT, Op.operands, List.mem_flatMap, List.mem_map]
        exact ⟨p.2, ⟨p, hp, rfl⟩, hz⟩
      · cases e
    · cases e
  · -- makeSlice
    split at e
    · rename_i h1 h2 h3
      injection h1 with h1
      injection h2 with h2
      obtain ⟨o, esz, c, n, h', rfl, rfl⟩ := optN_ok e
      injection h' with h'; injection h' with q1 q2; injection q2 with q2 q3; injection q3 with q3 q4; injection q4 with q4 q5; injection q5 with q5 q6
      subst q1; subst q2; subst q3; subst q4; subst q5; subst q6
      obtain ⟨rfl, rfl, g1, g2, g3, g4, g5⟩ := hg
      exact (eff_make _ _ h3 g1 g2 g3 h1 g4 g5 _ h2 (hd _ rfl)).weak (by simp [opsT, Op.operands]) (by simp)
    · cases e
  · -- store
    rename_i T x y
    obtain rfl := hs T x y rfl
    split at e
    · rename_i h
      obtain ⟨o, b, h', rfl⟩ := optO_ok e
      injection h' with h'; injection h' with q1 q2; injection q2 with q2 q3; injection q3 with q3 q4; injection q4 with q4 q5
      subst q1; subst q2; subst q3; subst q4; subst q5
      exact (eff_store _ _ _ h hg).weak (by simp [opsT, Op.operands]) (by simp)
    · cases e
  · -- builtin
    rename_i b xs ts
    have hxs : ∀ {x y : D}, xs.toList.map (ev C s) = [x, y] → ∃ a b, xs = #[a, b] ∧ ev C s a = x ∧ ev C s b = y := by
      intro x y h
      rcases xs with ⟨_ | ⟨a, _ | ⟨b, _ | ⟨c, l⟩⟩⟩⟩ <;> simp at h
      exact ⟨a, b, rfl, h.1, h.2⟩
    have hxs1 : ∀ {x : D}, xs.toList.map (ev C s) = [x] → ∃ a, xs = #[a] ∧ ev C s a = x := by
      intro x h
      rcases xs with ⟨_ | ⟨a, _ | ⟨b, l⟩⟩⟩ <;> simp at h
      exact ⟨a, rfl, h⟩
    have hts : ∀ {x y : TypeId}, ts.toList = [x, y] → ts = #[x, y] := fun h => by rcases ts with ⟨l⟩; simp at h; rw [h]
    have hts1 : ∀ {x : TypeId}, ts.toList = [x] → ts = #[x] := fun h => by rcases ts with ⟨l⟩; simp at h; rw [h]
    unfold builtD at e
    split at e
    · rename_i h1 h2
      obtain ⟨a, rfl, rfl⟩ := hxs1 h1
      obtain rfl := hts1 h2
      obtain ⟨h, rfl⟩ := opt3_ok e
      exact (eff_len _ _ h hg hd).weak (by simp [opsT, Op.operands, Call.operands]) (by simp)
    · rename_i h1
      obtain ⟨a, b, rfl, rfl, rfl⟩ := hxs h1
      split at e
      · rename_i h
        obtain ⟨rfl, rfl, rfl, rfl⟩ := optS_inj e
        exact (eff_min _ _ _ h hd).weak (by simp [opsT, Op.operands, Call.operands]) (by simp)
      · cases e
    · rename_i h1 h2
      obtain ⟨a, b, rfl, rfl, rfl⟩ := hxs h1
      obtain rfl := hts h2
      split at e
      · split at e
        · split at e
          · rename_i h
            obtain ⟨o, esz, c, n, h', rfl, rfl⟩ := optN_ok e
            injection h' with h'; injection h' with q1 q2; injection q2 with q2 q3; injection q3 with q3 q4; injection q4 with q4 q5; injection q5 with q5 q6
            subst q1; subst q2; subst q3; subst q4; subst q5; subst q6
            exact (eff_apb _ _ _ _ h hg hd).weak (by simp [opsT, Op.operands, Call.operands]) (by simp)
          · cases e
        · split at e
          · rename_i h
            obtain ⟨o, esz, c, n, h', rfl, rfl⟩ := optN_ok e
            injection h' with h'; injection h' with q1 q2; injection q2 with q2 q3; injection q3 with q3 q4; injection q4 with q4 q5; injection q5 with q5 q6
            subst q1; subst q2; subst q3; subst q4; subst q5; subst q6
            exact (eff_apc _ _ _ _ h hg hd).weak (by simp [opsT, Op.operands, Call.operands]) (by simp)
          · cases e
      · cases e
    · rename_i h1 h2
      obtain ⟨a, b, rfl, rfl, rfl⟩ := hxs h1
      obtain rfl := hts h2
      obtain ⟨o, b', h, rfl⟩ := optO_ok e
      exact (eff_cpb _ _ _ _ h hg hd).weak (by simp [opsT, Op.operands, Call.operands]) (by simp)
    · cases e
  · cases e
end
end Go.Proofs.Ytpmbdppppnbmnaa
