/- What the claim leans on, text Zc: Opd, Stp, Vc, In, Drw, Use, Opn. No condition beyond what each lemma states. -/
import Derived.Test.YtabkpoklihkifaaDoorZb
import Derived.Tactics
import Derived.Orders
import Derived.RangeFuncNested
import Derived.RangeFuncBound
import Derived.RangeFuncCalls
import Derived.RangeFuncLeaves
import Derived.OwnWalkIn
import Derived.TacticsInMore
import Derived.OrdersIn
import Derived.LoopNIn
import Derived.RangeFuncRecord

/- One operation reckoned as a whole; the steps of a region. Over any program. -/
namespace Go.Proofs.YtabkpoklihkifaaDoor
open Go Go.RowKit
set_option linter.unusedVariables false
set_option linter.unusedSimpArgs false

/-- What an operand reads as, over a table of globals. -/
def evg (G : Nat → Option D) (s : St) : Operand → D
  | .tmp t => s.slot t
  | .const v => ofVal v
  | .global g => match G g with | some cs => cs | none => .bot
  | .func f => .fn f
theorem ev_g (C : Ctx) (s : St) : ev C s = evg C.G s := by funext x; cases x <;> rfl
/-- A value, its form laid open. -/
def frc : D → Option D
  | .bot => some .bot
  | .bool b => some (.bool b)
  | .int k n => some (.int k n)
  | .u8 x => some (.u8 x)
  | .u32 x => some (.u32 x)
  | .str l => some (.str l)
  | .nilP => some .nilP
  | .nilS => some .nilS
  | .nilF => some .nilF
  | .fn f => some (.fn f)
  | .ptr o g off => some (.ptr o g off)
  | .sl o g off len => some (.sl o g off len)
  | .rob l => some (.rob l)
  | .ros s n cs => some (.ros s n cs)
  | .rop off cs => some (.rop off cs)
  | .rof s n f => some (.rof s n f)
  | .rpf k j s n f => some (.rpf k j s n f)
  | .rpb k l => some (.rpb k l)
  | .aggb l => some (.aggb l)
  | .agg cs => some (.agg cs)
  | .tup cs => some (.tup cs)
  | .iff c d => some (.iff c d)
  | .chunk f l n => some (.chunk f l n)
  | .chunko f o g off len n => some (.chunko f o g off len n)
  | .lsl n => some (.lsl n)
  | .ownb l => some (.ownb l)
  | .owns s n cs => some (.owns s n cs)
  | .ownp cs => some (.ownp cs)
theorem frc_eq (d : D) : frc d = some d := by cases d <;> rfl
theorem frc_ok {d d' : D} (h : frc d = some d') : d = d' := by rw [frc_eq] at h; injection h
def evf (G : Nat → Option D) (s : St) (x : Operand) : Option D := frc (evg G s x)
theorem evf_eq (G : Nat → Option D) (s : St) (x : Operand) : evf G s x = some (evg G s x) := frc_eq _
def frcL : List D → Option (List D)
  | [] => some []
  | d :: r => match frc d, frcL r with
    | some d, some r => some (d :: r)
    | _, _ => none
theorem frcL_eq : ∀ l : List D, frcL l = some l
  | [] => rfl
  | d :: r => by simp only [frcL, frc_eq, frcL_eq r]
def frcP : List (Nat × D) → Option (List (Nat × D))
  | [] => some []
  | (i, d) :: r => match frc d, frcP r with
    | some d, some r => some ((i, d) :: r)
    | _, _ => none
theorem frcP_eq : ∀ l : List (Nat × D), frcP l = some l
  | [] => rfl
  | (i, d) :: r => by simp only [frcP, frc_eq, frcP_eq r]

/-- guard, value, objects, objects looked at -/
abbrev OpR := Option (Prop × D × List (Nat × Ob) × List Nat)
def opt2 (r : Option (Prop × D)) : OpR := match r with | some (g, d) => some (g, d, [], []) | none => none
def opt3 (r : Option (Prop × D × List Nat)) : OpR := match r with | some (g, d, R) => some (g, d, [], R) | none => none
/-- An object laid anew. -/
def optN (s : St) (r : Option (Prop × Nat × Nat × Cont × Option Nat × List Nat)) : OpR :=
  match r with
  | some (g, o, esz, c, n, R) =>
    match s.ob o with
    | ⟨⟨γ, _, _⟩, _⟩ => some (g, (match n with | some n => .sl o (γ + 1) 0 n | none => .ptr o (γ + 1) 0), [(o, ⟨⟨γ + 1, esz, c.len⟩, some c⟩)], R)
  | none => none
def optO (r : Option (Prop × Nat × Ob × D × List Nat)) : OpR :=
  match r with
  | some (g, o, ⟨⟨γ, e, n⟩, ct⟩, d, R) => some (g, d, [(o, ⟨⟨γ, e, n⟩, ct⟩)], R)
  | none => none

def evO (G : Nat → Option D) (s : St) (x : Option Operand) : Option (Option D) :=
  match x with
  | none => some none
  | some x => match evf G s x with | some d => some (some d) | none => none
theorem evO_eq (G : Nat → Option D) (s : St) (x : Option Operand) : evO G s x = some (x.map (evg G s)) := by cases x <;> simp [evO, evf_eq]

def pickD (k : Nat) (c x y : D) : OpR :=
  match truth c, truth x, truth y with
  | some (cc, b), some (cx, bx), some (cy, by') => some ((cc = true ∧ (b = true → cx = true) ∧ (b = false → cy = true)), .bool (pkB k b bx by'), [], [])
  | _, _, _ => none
def convD (Ti : Nat → TI) (s : St) (dst : Option Nat) (T T' : TypeId) (x : D) : OpR :=
  match (Ti T).ty, (Ti T').ty with
  | .slice e0, .str => match byt s.ob x with | some (g, l, R) => some ((g ∧ (Ti e0).ty = .int .u8), .str l, [], R) | none => none
  | .str, .slice e0 => match x, dst with
    | .str l, some t => optN s (some (((Ti e0).ty = .int .u8 ∧ l.length ≤ 140737488355328), t, 1, .bytes l, some l.length, [t]))
    | _, _ => none
  | .slice _, .slice _ => optO (mkD Ti s.ob T T' x)
  | _, _ => opt2 (cvD Ti T T' x)
def builtD (Ti : Nat → TI) (s : St) (dst : Option Nat) (b : Builtin) (xs : List D) (ts : List TypeId) : OpR :=
  match b, xs, ts with
  | .len, [x], [t] => opt3 (lenD Ti s.ob t x)
  | .min, [x, y], _ => match minD x y with | some d => some (True, d, [], []) | none => none
  | .append, [x, y], [T, T2] =>
    match (Ti T).ty with
    | .slice e => match (Ti e).ty with
      | .int .u8 => match apbD Ti s.ob (dst.getD 0) T T2 x y with | some (g, o, c, n, R) => optN s (some (g, o, 1, c, some n, R)) | none => none
      | _ => match apcD Ti s.ob (dst.getD 0) T T2 x y with | some (g, o, e, c, n, R) => optN s (some (g, o, e, c, some n, R)) | none => none
    | _ => none
  | .copy, [x, y], [T, T2] => optO (cpbD Ti s.ob T T2 x y)
  | _, _, _ => none
def isAggb : D → Bool
  | .aggb _ => true
  | _ => false

/-- ONE OPERATION (but for calls of functions). -/
def opD (Ti : Nat → TI) (G : Nat → Option D) (s : St) (dst : Option Nat) (op : Op) : OpR :=
  match op with
  | .move x => match evf G s x with | some d => some (True, d, [], []) | none => none
  | .assign x => match evf G s x with | some d => some (True, d, [], []) | none => none
  | .pick c x0 y0 => match evf G s c, evf G s x0, evf G s y0 with | some c, some x, some y => pickD (pkK x0 y0) c x y | _, _, _ => none
  | .load t x => match evf G s x with | some x => opt3 (ldD Ti s.ob t x) | none => none
  | .fieldAddr t x f => match evf G s x with | some x => opt3 (fdaD Ti s.ob t x f) | none => none
  | .indexAddr t x y => match evf G s x, evf G s y with | some x, some y => opt3 (ixaD Ti s.ob t x y) | _, _ => none
  | .field t x f => match evf G s x with | some x => opt2 (fldD Ti t x f) | none => none
  | .index t x y => match evf G s x, evf G s y with | some x, some y => opt2 (idxD Ti t x y) | _, _ => none
  | .binOp op t x y _ => match evf G s x, evf G s y with
    | some x, some y => match isAggb x with
      | true => opt2 (eqaD Ti op t x y)
      | false => opt3 (binD s.sh (Ti t).ty op x y)
    | _, _ => none
  | .unOp op t x => match evf G s x with | some x => opt2 (unD op x) | none => none
  | .convert T T' x => match evf G s x with | some x => convD Ti s dst T T' x | none => none
  | .slice t x lo hi none => match evf G s x, evO G s lo, evO G s hi with
    | some x, some lo, some hi => match (Ti t).ty with
      | .slice el => match Nat.beq (Ti el).sz 1 with
        | true => opt3 (slcD Ti s.ob t x lo hi)
        | false => match slcD Ti s.ob t x lo hi with | some (g, d, R) => some ((g ∧ (Ti el).sz ≠ 0 ∧ byt s.ob x = none), d, [], R) | none => none
      | _ => opt3 (slcD Ti s.ob t x lo hi)
    | _, _, _ => none
  | .sliceToArrayPointer t x => match evf G s x with | some x => opt3 (apD Ti s.ob t x) | none => none
  | .nilCheck x => match evf G s x with
    | some x => match nckD s.ob x with | some (g, R) => some (g, x, [], R) | none => none
    | none => none
  | .extract x i => match evf G s x with
    | some (.tup cs) => match frc (cs.getD i .bot) with | some d => some (i < cs.length, d, [], []) | none => none
    | _ => none
  | .alloc T => match dst with
    | some t => match boxC (Ti T).zero with | some c => optN s (some (True, t, eszOf Ti T, c, none, [t])) | none => none
    | none => none
  | .box T x => match dst, evf G s x with
    | some t, some x => match boxC x with | some c => optN s (some (True, t, eszOf Ti T, c, none, [t])) | none => none
    | _, _ => none
  | .build T ps => match frcP (ps.toList.map fun p => (p.1, evg G s p.2)) with | some ps => opt2 (bldD Ti T ps) | none => none
  | .buildSlice T n ps => match dst, frcP (ps.toList.map fun p => (p.1, evg G s p.2)) with
    | some t, some ps => match bslD Ti T n ps with | some (g, esz, c) => optN s (some (g, t, esz, c, some n, [t])) | none => none
    | _, _ => none
  | .makeSlice T x y => match dst, evf G s x, evf G s y, (Ti T).ty with
    | some t, some (.int k n), some (.int k' n'), .slice e0 => optN s (some ((k = k' ∧ n = n' ∧ (Ti e0).zero = .u8 0 ∧ (Ti e0).sz = 1 ∧ (Ti e0).by_ = 1 ∧ 0 ≤ n ∧ n ≤ 140737488355328), t, 1, .bytes (List.replicate n.toNat 0), some n.toNat, [t]))
    | _, _, _, _ => none
  | .store T x y => match evf G s x, evf G s y with
    | some x, some y => match stoD Ti s.ob T x y with | some (g, o, b, R) => optO (some (g, o, b, .bot, R)) | none => none
    | _, _ => none
  | .call { callee := .builtin b, args := xs, argTypes := ts } => match frcL (xs.toList.map (evg G s)) with | some xs => builtD Ti s dst b xs ts.toList | none => none
  | _ => none

/-- The slots that an operation looks at. -/
def opsT (op : Op) : List Nat := op.operands.toList.flatMap opT

section
variable {C : Ctx} {s : St}
theorem Eff.weak {o : Oper} {d : D} {obs : List (Nat × Ob)} {T T' R R' : List Nat} (h : Eff C o s d obs T R) (hT : ∀ t ∈ T, t ∈ T') (hR : ∀ x ∈ R, x ∈ R') : Eff C o s d obs T' R' :=
  fun σ h1 h2 => h σ (fun t ht => h1 t (hT t ht)) (fun x hx => h2 x (hR x hx))
theorem optN_ok {r : Option (Prop × Nat × Nat × Cont × Option Nat × List Nat)} {g : Prop} {d : D} {obs : List (Nat × Ob)} {R : List Nat} (e : optN s r = some (g, d, obs, R)) :
    ∃ o esz c n, r = some (g, o, esz, c, n, R) ∧ d = (match n with | some n => .sl o ((s.ob o).sh.gen + 1) 0 n | none => .ptr o ((s.ob o).sh.gen + 1) 0) ∧ obs = [(o, nob s o esz c)] := by
  unfold optN at e
  split at e
  · rename_i g' o esz c n R'
    split at e
    rename_i γ _ _ _ ho
    injection e with e; injection e with e1 e2; injection e2 with e2 e3; injection e3 with e3 e4
    subst e1; subst e4
    refine ⟨o, esz, c, n, rfl, ?_, ?_⟩
    · rw [← e2, ho]
    · rw [← e3]; unfold nob; rw [ho]
  · cases e
theorem optO_ok {r : Option (Prop × Nat × Ob × D × List Nat)} {g : Prop} {d : D} {obs : List (Nat × Ob)} {R : List Nat} (e : optO r = some (g, d, obs, R)) : ∃ o b, r = some (g, o, b, d, R) ∧ obs = [(o, b)] := by
  unfold optO at e
  split at e
  · injection e with e; injection e with e1 e2; injection e2 with e2 e3; injection e3 with e3 e4
    subst e1; subst e2; subst e3; subst e4
    exact ⟨_, _, rfl, rfl⟩
  · cases e
theorem opt2_ok {r : Option (Prop × D)} {g : Prop} {d : D} {obs : List (Nat × Ob)} {R : List Nat} (e : opt2 r = some (g, d, obs, R)) : r = some (g, d) ∧ obs = [] ∧ R = [] := by
  unfold opt2 at e
  split at e
  · injection e with e; injection e with e1 e2; injection e2 with e2 e3; injection e3 with e3 e4
    subst e1; subst e2; subst e3; subst e4
    exact ⟨rfl, rfl, rfl⟩
  · cases e
theorem opt3_ok {r : Option (Prop × D × List Nat)} {g : Prop} {d : D} {obs : List (Nat × Ob)} {R : List Nat} (e : opt3 r = some (g, d, obs, R)) : r = some (g, d, R) ∧ obs = [] := by
  unfold opt3 at e
  split at e
  · injection e with e; injection e with e1 e2; injection e2 with e2 e3; injection e3 with e3 e4
    subst e1; subst e2; subst e3; subst e4
    exact ⟨rfl, rfl⟩
  · cases e
variable {ty : TypeId} {pos : String} {after : Array Edge} {gd : Option (Nat × Bool)}
theorem sub_r {T R : List Nat} : (∀ t ∈ T, t ∈ T) ∧ (∀ x ∈ R, x ∈ R) := ⟨fun _ h => h, fun _ h => h⟩
theorem optS_inj {a a' : Prop} {b b' : D} {c c' : List (Nat × Ob)} {d d' : List Nat} (e : (some (a, b, c, d) : OpR) = some (a', b', c', d')) : a = a' ∧ b = b' ∧ c = c' ∧ d = d' := by
  injection e with e; injection e with e1 e2; injection e2 with e2 e3; injection e3 with e3 e4
  exact ⟨e1, e2, e3, e4⟩

theorem opD_ok {dst : Option Nat} {op : Op} (hd : dstOk C.n dst) {g : Prop} {d : D} {obs : List (Nat × Ob)} {R : List Nat} (e : opD (tiOf C.P) C.G s dst op = some (g, d, obs, R)) (hg : g) (hs : ∀ T x y, op = .store T x y → dst = none) :
    Eff C ⟨dst, op, ty, pos, after, gd⟩ s d obs (opsT op) R := by
  unfold opD at e
  simp only [evf_eq, evO_eq, frcL_eq, frcP_eq, frc_eq, ← ev_g] at e
  split at e
  · obtain ⟨rfl, rfl, rfl, rfl⟩ := optS_inj e
    exact (eff_move _ hd).weak (by simp [opsT, Op.operands]) (by simp)
  · obtain ⟨rfl, rfl, rfl, rfl⟩ := optS_inj e
    exact (eff_assign _ hd).weak (by simp [opsT, Op.operands]) (by simp)
  · -- pick
    rename_i c x y
    unfold pickD at e
    split at e
    · rename_i cc b cx bx cy by' h1 h2 h3
      obtain ⟨rfl, rfl, rfl, rfl⟩ := optS_inj e
      exact (eff_pickB c x y h1 h2 h3 hg.1 hg.2.1 hg.2.2 hd).weak (by simp [opsT, Op.operands]) (by simp)
    · cases e
  · obtain ⟨h, rfl⟩ := opt3_ok e
    exact (eff_load _ _ h hg hd).weak (by simp [opsT, Op.operands]) (by simp)
  · obtain ⟨h, rfl⟩ := opt3_ok e
    exact (eff_fda _ _ _ h hg hd).weak (by simp [opsT, Op.operands]) (by simp)
  · obtain ⟨h, rfl⟩ := opt3_ok e
    exact (eff_ixa _ _ _ h hg hd).weak (by simp [opsT, Op.operands]) (by simp)
  · obtain ⟨h, rfl, rfl⟩ := opt2_ok e
    exact (eff_fld _ _ _ h hg hd).weak (by simp [opsT, Op.operands]) (by simp)
  · obtain ⟨h, rfl, rfl⟩ := opt2_ok e
    exact (eff_idx _ _ _ h hg hd).weak (by simp [opsT, Op.operands]) (by simp)
  · -- binOp
    split at e
    · obtain ⟨h, rfl, rfl⟩ := opt2_ok e
      exact (eff_eqa _ _ _ _ _ h hg hd).weak (by simp [opsT, Op.operands]) (by simp)
    · obtain ⟨h, rfl⟩ := opt3_ok e
      exact (eff_bin _ _ _ _ _ h hg hd).weak (by simp [opsT, Op.operands]) (by simp)
  · obtain ⟨h, rfl, rfl⟩ := opt2_ok e
    exact (eff_un _ _ _ h hg hd).weak (by simp [opsT, Op.operands]) (by simp)
  · -- convert
    unfold convD at e
    split at e
    · split at e
      · rename_i h1 h2 _ _ _ _ h3
        obtain ⟨rfl, rfl, rfl, rfl⟩ := optS_inj e
        exact (eff_b2s _ _ _ h1 h2 hg.2 h3 hg.1 hd).weak (by simp [opsT, Op.operands]) (by simp)
      · cases e
    · split at e
      · rename_i h1 h2 _ _ l t h3
        obtain ⟨o, esz, c, n, h, rfl, rfl⟩ := optN_ok e
        injection h with h; injection h with q1 q2; injection q2 with q2 q3; injection q3 with q3 q4; injection q4 with q4 q5; injection q5 with q5 q6
        subst q1; subst q2; subst q3; subst q4; subst q5; subst q6
        exact (eff_s2b _ _ _ h1 h2 hg.1 h3 hg.2 (hd _ rfl)).weak (by simp [opsT, Op.operands]) (by simp)
      · cases e
    · obtain ⟨o, b, h, rfl⟩ := optO_ok e
      exact (eff_mk _ _ _ h hg hd).weak (by simp [opsT, Op.operands]) (by simp)
    · obtain ⟨h, rfl, rfl⟩ := opt2_ok e
      exact (eff_cv _ _ _ h hg hd).weak (by simp [opsT, Op.operands]) (by simp)
  · -- slice
    rename_i t x lo hi
    have hsub : ∀ z ∈ opT x ++ (lo.elim [] opT) ++ (hi.elim [] opT), z ∈ opsT (.slice t x lo hi none) := by
      cases lo <;> cases hi <;> simp [opsT, Op.operands]
    split at e
    · rename_i el hel
      split at e
      · rename_i hb
        have h1 := Nat.eq_of_beq_eq_true hb
        obtain ⟨h, rfl⟩ := opt3_ok e
        exact (eff_slc _ _ _ _ h hg (fun el' h' => by rw [hel] at h'; injection h' with h'; subst h'; exact ⟨by omega, fun _ => h1⟩) hd).weak hsub (by simp)
      · split at e
        · rename_i h
          obtain ⟨rfl, rfl, rfl, rfl⟩ := optS_inj e
          obtain ⟨hg, h1, h2⟩ := hg
          exact (eff_slc _ _ _ _ h hg (fun el' h' => by rw [hel] at h'; injection h' with h'; subst h'; exact ⟨h1, fun hne => absurd h2 hne⟩) hd).weak hsub (by simp)
        · cases e
    · rename_i hne
      obtain ⟨h, rfl⟩ := opt3_ok e
      exact (eff_slc _ _ _ _ h hg (fun el' h' => absurd h' (hne el')) hd).weak hsub (by simp)
  · obtain ⟨h, rfl⟩ := opt3_ok e
    exact (eff_ap _ _ h hg hd).weak (by simp [opsT, Op.operands]) (by simp)
  · -- nilCheck
    split at e
    · rename_i h
      obtain ⟨rfl, rfl, rfl, rfl⟩ := optS_inj e
      exact (eff_nck _ h hg hd).weak (by simp [opsT, Op.operands]) (by simp)
    · cases e
  · -- extract
    split at e
    · rename_i cs h
      obtain ⟨rfl, rfl, rfl, rfl⟩ := optS_inj e
      injection h with h
      exact (eff_ext _ _ h hg hd).weak (by simp [opsT, Op.operands]) (by simp)
    · cases e
  · -- alloc
    split at e
    · split at e
      · rename_i h
        obtain ⟨o, esz, c, n, h', rfl, rfl⟩ := optN_ok e
        injection h' with h'; injection h' with q1 q2; injection q2 with q2 q3; injection q3 with q3 q4; injection q4 with q4 q5; injection q5 with q5 q6
        subst q1; subst q2; subst q3; subst q4; subst q5; subst q6
        exact (eff_alloc _ h (hd _ rfl)).weak (by simp) (by simp)
      · cases e
    · cases e
  · -- box
    split at e
    · rename_i hx
      injection hx with hx
      subst hx
      split at e
      · rename_i h
        obtain ⟨o, esz, c, n, h', rfl, rfl⟩ := optN_ok e
        injection h' with h'; injection h' with q1 q2; injection q2 with q2 q3; injection q3 with q3 q4; injection q4 with q4 q5; injection q5 with q5 q6
        subst q1; subst q2; subst q3; subst q4; subst q5; subst q6
        exact (eff_box _ _ h (hd _ rfl)).weak (by simp [opsT, Op.operands]) (by simp)
      · cases e
    · cases e
  · -- build
    obtain ⟨h, rfl, rfl⟩ := opt2_ok e
    refine (eff_build _ _ h hg hd).weak ?_ (by simp)
    intro z hz
    simp only [prtsT, List.mem_flatMap] at hz
    obtain ⟨p, hp, hz⟩ := hz
    simp only [opsT, Op.operands, List.mem_flatMap, List.mem_map]
    exact ⟨p.2, ⟨p, hp, rfl⟩, hz⟩
  · -- buildSlice
    split at e
    · rename_i hx
      injection hx with hx
      subst hx
      split at e
      · rename_i h
        obtain ⟨o, esz, c, n, h', rfl, rfl⟩ := optN_ok e
        injection h' with h'; injection h' with q1 q2; injection q2 with q2 q3; injection q3 with q3 q4; injection q4 with q4 q5; injection q5 with q5 q6
        subst q1; subst q2; subst q3; subst q4; subst q5; subst q6
        refine (eff_bslice _ _ _ h hg (hd _ rfl)).weak ?_ (by simp)
        intro z hz
        simp only [prtsT, List.mem_flatMap] at hz
        obtain ⟨p, hp, hz⟩ := hz
        simp only [opsT, Op.operands, List.mem_flatMap, List.mem_map]
        exact ⟨p.2, ⟨p, hp, rfl⟩, hz⟩
      · cases e
    · cases e
  · -- makeSlice
    split at e
    · rename_i h1 h2 h3
      injection h1 with h1
      injection h2 with h2
      obtain ⟨o, esz, c, n, h', rfl, rfl⟩ := optN_ok e
      injection h' with h'; injection h' with q1 q2; injection q2 with q2 q3; injection q3 with q3 q4; injection q4 with q4 q5; injection q5 with q5 q6
      subst q1; subst q2; subst q3; subst q4; subst q5; subst q6
      obtain ⟨rfl, rfl, g1, g2, g3, g4, g5⟩ := hg
      exact (eff_make _ _ h3 g1 g2 g3 h1 g4 g5 _ h2 (hd _ rfl)).weak (by simp [opsT, Op.operands]) (by simp)
    · cases e
  · -- store
    rename_i T x y
    obtain rfl := hs T x y rfl
    split at e
    · rename_i h
      obtain ⟨o, b, h', rfl⟩ := optO_ok e
      injection h' with h'; injection h' with q1 q2; injection q2 with q2 q3; injection q3 with q3 q4; injection q4 with q4 q5
      subst q1; subst q2; subst q3; subst q4; subst q5
      exact (eff_store _ _ _ h hg).weak (by simp [opsT, Op.operands]) (by simp)
    · cases e
  · -- builtin
    rename_i b xs ts
    have hxs : ∀ {x y : D}, xs.toList.map (ev C s) = [x, y] → ∃ a b, xs = #[a, b] ∧ ev C s a = x ∧ ev C s b = y := by
      intro x y h
      rcases xs with ⟨_ | ⟨a, _ | ⟨b, _ | ⟨c, l⟩⟩⟩⟩ <;> simp at h
      exact ⟨a, b, rfl, h.1, h.2⟩
    have hxs1 : ∀ {x : D}, xs.toList.map (ev C s) = [x] → ∃ a, xs = #[a] ∧ ev C s a = x := by
      intro x h
      rcases xs with ⟨_ | ⟨a, _ | ⟨b, l⟩⟩⟩ <;> simp at h
      exact ⟨a, rfl, h⟩
    have hts : ∀ {x y : TypeId}, ts.toList = [x, y] → ts = #[x, y] := fun h => by rcases ts with ⟨l⟩; simp at h; rw [h]
    have hts1 : ∀ {x : TypeId}, ts.toList = [x] → ts = #[x] := fun h => by rcases ts with ⟨l⟩; simp at h; rw [h]
    unfold builtD at e
    split at e
    · rename_i h1 h2
      obtain ⟨a, rfl, rfl⟩ := hxs1 h1
      obtain rfl := hts1 h2
      obtain ⟨h, rfl⟩ := opt3_ok e
      exact (eff_len _ _ h hg hd).weak (by simp [opsT, Op.operands, Call.operands]) (by simp)
    · rename_i h1
      obtain ⟨a, b, rfl, rfl, rfl⟩ := hxs h1
      split at e
      · rename_i h
        obtain ⟨rfl, rfl, rfl, rfl⟩ := optS_inj e
        exact (eff_min _ _ _ h hd).weak (by simp [opsT, Op.operands, Call.operands]) (by simp)
      · cases e
    · rename_i h1 h2
      obtain ⟨a, b, rfl, rfl, rfl⟩ := hxs h1
      obtain rfl := hts h2
      split at e
      · split at e
        · split at e
          · rename_i h
            obtain ⟨o, esz, c, n, h', rfl, rfl⟩ := optN_ok e
            injection h' with h'; injection h' with q1 q2; injection q2 with q2 q3; injection q3 with q3 q4; injection q4 with q4 q5; injection q5 with q5 q6
            subst q1; subst q2; subst q3; subst q4; subst q5; subst q6
            exact (eff_apb _ _ _ _ h hg hd).weak (by simp [opsT, Op.operands, Call.operands]) (by simp)
          · cases e
        · split at e
          · rename_i h
            obtain ⟨o, esz, c, n, h', rfl, rfl⟩ := optN_ok e
            injection h' with h'; injection h' with q1 q2; injection q2 with q2 q3; injection q3 with q3 q4; injection q4 with q4 q5; injection q5 with q5 q6
            subst q1; subst q2; subst q3; subst q4; subst q5; subst q6
            exact (eff_apc _ _ _ _ h hg hd).weak (by simp [opsT, Op.operands, Call.operands]) (by simp)
          · cases e
      · cases e
    · rename_i h1 h2
      obtain ⟨a, b, rfl, rfl, rfl⟩ := hxs h1
      obtain rfl := hts h2
      obtain ⟨o, b', h, rfl⟩ := optO_ok e
      exact (eff_cpb _ _ _ _ h hg hd).weak (by simp [opsT, Op.operands, Call.operands]) (by simp)
    · cases e
  · cases e
end
end Go.Proofs.YtabkpoklihkifaaDoor

/- The steps of a region in the abstract state: guards, and the judgement over code. Over any program. -/
namespace Go.Proofs.YtabkpoklihkifaaDoor
open Go Go.RowKit
set_option linter.unusedVariables false
set_option linter.unusedSimpArgs false

/-- The slot that an operation of that number writes. -/
def gsl (ops : Array Oper) (g : Nat) : Option Nat := (ops[g]?).bind (·.dst)
/-- The slots that an operation looks at, its guard's too. -/
def tOf (ops : Array Oper) (o : Oper) : List Nat := opsT o.op ++ (match o.guard with | some (g, _) => (gsl ops g).toList | none => [])
/-- The effect of an operation with its guard. -/
def EffG (C : Ctx) (ops : Array Oper) (o : Oper) (s : St) (d : D) (obs : List (Nat × Ob)) (R : List Nat) : Prop :=
  ∀ σ : St, (∀ t ∈ tOf ops o, σ.slot t = s.slot t) → (∀ x ∈ R, σ.ob x = s.ob x) → ∀ (K : Act → World → Prop) (Q : Exit → Act → World → Prop) (a : Act) (w : World), Rep C σ a w →
    (∀ a' w', Rep C ((σ.lays obs).puto o.dst d) a' w' → K a' w') →
    if Region.wanted o (yielded ops a.tmps) then o.wp C.P a w K Q else K (a.put o.dst undef) w
theorem or_wanted {p : Prop} [Decidable p] {A B X : Prop} (h : if p then A else B) : if p then A ∨ X else B := by
  split
  · rename_i hp; rw [if_pos hp] at h; exact .inl h
  · rename_i hp; rw [if_neg hp] at h; exact h
/-- The guard, where it is decided in favour. -/
def gok (ops : Array Oper) (s : St) (gd : Option (Nat × Bool)) : Prop :=
  match gd with
  | none => True
  | some (g, want) => ∃ t, gsl ops g = some t ∧ frc (s.slot t) = some (.bool want)

section
variable {C : Ctx} {s σ : St} {ops : Array Oper} {o : Oper} {d : D} {obs : List (Nat × Ob)} {R : List Nat} {a : Act} {w : World}
theorem yield_of (h : Rep C σ a w) {g t : Nat} (hg : gsl ops g = some t) {b : Bool} (hb : σ.slot t = .bool b) : yielded ops a.tmps g = some b := by
  obtain ⟨_, _, ρ, S, Φ, h1, h2⟩ := h
  have := h2 t
  rw [hb] at this
  have hv := inv_bool this
  unfold yielded
  unfold gsl at hg
  rw [hg]
  have h3 : a.tmps[t]? = some (.bool b) := by
    rw [Array.getD_eq_getD_getElem?] at hv
    rcases hx : a.tmps[t]? with _ | v
    · rw [hx] at hv; cases hv
    · rw [hx] at hv; rw [show v = .bool b from hv]
  simp [h3]
theorem effG_of (h : Eff C o s d obs (opsT o.op) R) (hg : gok ops s o.guard) : EffG C ops o s d obs R := by
  intro σ hT hR K Q a w hrep hK
  have hT' : ∀ t ∈ opsT o.op, σ.slot t = s.slot t := fun t ht => hT t (List.mem_append_left _ ht)
  have hw : Region.wanted o (yielded ops a.tmps) = true := by
    unfold Region.wanted
    rcases hgd : o.guard with _ | ⟨g, want⟩
    · rfl
    · rw [hgd] at hg
      obtain ⟨t, h1, h2⟩ := hg
      have h3 : σ.slot t = .bool want := by rw [hT t (by simp [tOf, hgd, h1])]; exact frc_ok h2
      simp [yield_of hrep h1 h3]
  rw [if_pos hw]
  exact h σ hT' hR K Q a w hrep hK
theorem rv_undef {S : Nat → Prop} {ρ : Nat → Pl} {H : Nat → Sh} : RV w S ρ H (.tup []) undef [] := .tup [] [] [] [] rfl rfl rfl (by simp)
theorem rep_undef (h : Rep C σ a w) (dst : Option Nat) (hd : dstOk C.n dst) (d : D) (hv : ∀ S ρ H, RV w S ρ H d undef []) : Rep C (σ.puto dst d) (a.put dst undef) w := by
  obtain ⟨h1, h2, ρ, S, Φ, h3, h4⟩ := h
  exact rep_put h1 h2 h3 h4 dst hd d undef (hv _ _ _)
theorem effG_no {g t : Nat} {b want : Bool} (hgd : o.guard = some (g, want)) (hg : gsl ops g = some t) (hs : s.slot t = .bool b) (hb : b ≠ want) (hd : dstOk C.n o.dst) : EffG C ops o s (.tup []) [] [] := by
  intro σ hT hR K Q a w hrep hK
  have h3 : σ.slot t = .bool b := by rw [hT t (by simp [tOf, hgd, hg])]; exact hs
  have hw : ¬ Region.wanted o (yielded ops a.tmps) = true := by
    unfold Region.wanted
    simp [hgd, yield_of hrep hg h3, hb]
  rw [if_neg hw]
  exact hK _ _ (rep_undef hrep _ hd _ fun _ _ _ => rv_undef)
theorem yield_un (h : Rep C σ a w) {g t : Nat} (hg : gsl ops g = some t) (hb : σ.slot t = .tup []) : yielded ops a.tmps g = none := by
  obtain ⟨_, _, ρ, S, Φ, h1, h2⟩ := h
  have := h2 t
  rw [hb] at this
  unfold yielded
  unfold gsl at hg
  rw [hg]
  have hv : ∃ vs, a.tmps.getD t undef = .tuple vs := by
    generalize a.tmps.getD t undef = v at this
    cases this
    exact ⟨_, rfl⟩
  obtain ⟨vs, hv⟩ := hv
  rw [Array.getD_eq_getD_getElem?] at hv
  rcases hx : a.tmps[t]? with _ | v
  · simp [hx]
  · rw [hx] at hv
    have hv' : v = .tuple vs := hv
    subst hv'
    simp [hx]
theorem effG_nu {g t : Nat} {want : Bool} (hgd : o.guard = some (g, want)) (hg : gsl ops g = some t) (hs : s.slot t = .tup []) (hd : dstOk C.n o.dst) : EffG C ops o s (.tup []) [] [] := by
  intro σ hT hR K Q a w hrep hK
  have h3 : σ.slot t = .tup [] := by rw [hT t (by simp [tOf, hgd, hg])]; exact hs
  have hw : ¬ Region.wanted o (yielded ops a.tmps) = true := by
    unfold Region.wanted
    simp [hgd, yield_un hrep hg h3]
  rw [if_neg hw]
  exact hK _ _ (rep_undef hrep _ hd _ fun _ _ _ => rv_undef)
theorem effG_if {g t : Nat} {b want : Bool} (hgd : o.guard = some (g, want)) (hg : gsl ops g = some t) (hs : s.slot t = .bool b) (hd : dstOk C.n o.dst) (h : b = want → Eff C o s d [] (opsT o.op) R) : EffG C ops o s (.iff (b == want) d) [] R := by
  intro σ hT hR K Q a w hrep hK
  by_cases hb : b = want
  · subst hb
    have h1 := effG_of (ops := ops) (h rfl) (by rw [hgd]; exact ⟨t, hg, by rw [hs, frc_eq]⟩) σ hT hR K Q a w hrep
    refine h1 (fun a' w' hr => hK a' w' ?_)
    obtain ⟨q1, q2, ρ, S, Φ, q3, q4⟩ := hr
    have e1 : ∀ d : D, ((σ.lays []).puto o.dst d).sh = σ.sh := fun d => by cases o.dst <;> rfl
    have e2 : ∀ d : D, ((σ.lays []).puto o.dst d).dk = σ.dk := fun d => by cases o.dst <;> rfl
    have e3 : ∀ (d : D) x, ((σ.lays []).puto o.dst d).ob x = σ.ob x := fun d x => by cases o.dst <;> rfl
    refine ⟨by rw [e2] at q1 ⊢; exact q1, q2, ρ, S, Φ, q3.congr (fun x => by rw [e3, e3]) (by rw [e2, e2]), fun t' => ?_⟩
    have := q4 t'
    rw [e1] at this ⊢
    rcases hdst : o.dst with _ | x
    · rw [hdst] at this; exact this
    · rw [hdst] at this
      show RV w' S ρ σ.sh ((σ.put x _).slot t') _ []
      have this' : RV w' S ρ σ.sh ((σ.put x d).slot t') (a'.tmps.getD t' undef) [] := this
      rw [St.slot_put] at this' ⊢
      split
      · rename_i hx; rw [if_pos hx] at this'; exact .iff _ _ _ (fun _ => this') (fun e => by simp at e)
      · rename_i hx; rw [if_neg hx] at this'; exact this'
  · have h3 : σ.slot t = .bool b := by rw [hT t (by simp [tOf, hgd, hg])]; exact hs
    have hw : ¬ Region.wanted o (yielded ops a.tmps) = true := by
      unfold Region.wanted
      simp [hgd, yield_of hrep hg h3, hb]
    rw [if_neg hw]
    exact hK _ _ (rep_undef hrep _ hd _ fun _ _ _ => .iff _ _ _ (fun e => absurd (by simpa using e) hb) (fun _ => rfl))
end

/-- What each step of a region may use. -/
structure Stp (C : Ctx) (ops : Array Oper) (M : List (List Nat × List Nat) → List Oper → St → Prop) : Prop where
  step : ∀ acc o rest s d obs R, EffG C ops o s d obs R → M ((obs.map (·.1), R) :: acc) rest ((s.lays obs).puto o.dst d) → M acc (o :: rest) s
/-- The tables that a walk goes by. -/
structure Env (C : Ctx) (Ti : Nat → TI) (G : Nat → Option D) (n : Nat) : Prop where
  ti : tiOf C.P = Ti
  g : C.G = G
  n : C.n = n

section
variable {C : Ctx} {Ti : Nat → TI} {G : Nat → Option D} {n : Nat} {ops : Array Oper} {M : List (List Nat × List Nat) → List Oper → St → Prop}
  {acc : List (List Nat × List Nat)} {rest : List Oper} {sl : List (Nat × D)} {hp : List (Nat × Ob)} {dk : List Nat} {t : Nat} {op : Op} {ty : TypeId} {pos : String} {after : Array Edge} {gd : Option (Nat × Bool)}
  {g : Prop} {d d1 d' : D} {o : Nat} {b b' : Ob} {R : List Nat}
theorem env_lt (hE : Env C Ti G n) (ht : Nat.blt t n = true) : dstOk C.n (some t) := dstOk_some (by rw [hE.n]; simpa [Nat.blt_eq] using ht)
theorem st_p (hE : Env C Ti G n) (hM : Stp C ops M) (e : opD Ti G ⟨sl, hp, dk⟩ (some t) op = some (g, d, [], R)) (hg : g) (ht : Nat.blt t n = true) (hgd : gok ops ⟨sl, hp, dk⟩ gd) (hd0 : d = d1) (hd : d1 = d')
    (k : M (([], R) :: acc) rest ⟨(t, d') :: sl, hp, dk⟩) : M acc (⟨some t, op, ty, pos, after, gd⟩ :: rest) ⟨sl, hp, dk⟩ := by
  subst hd0
  subst hd
  rw [← hE.ti, ← hE.g] at e
  refine hM.step _ _ _ _ d [] R (effG_of (opD_ok (env_lt hE ht) e hg fun T x y h => ?_) hgd) k
  subst h
  simp only [opD, evf_eq] at e
  split at e
  · obtain ⟨_, _, _, h⟩ := optO_ok e; cases h
  · cases e
theorem notStore {Ti : Nat → TI} {G : Nat → Option D} {s : St} {T : TypeId} {x y : Operand} {dst dst' : Option Nat} (e : opD Ti G s dst (.store T x y) = some (g, d, [(o, b)], R)) : opD Ti G s dst' (.store T x y) = some (g, d, [(o, b)], R) := e
theorem st_l (hE : Env C Ti G n) (hM : Stp C ops M) (e : opD Ti G ⟨sl, hp, dk⟩ (some t) op = some (g, d, [(o, b)], R)) (hg : g) (ht : Nat.blt t n = true) (hgd : gok ops ⟨sl, hp, dk⟩ gd) (hs : (match op with | .store _ _ _ => false | _ => true) = true) (hb : b = b') (hd0 : d = d1) (hd : d1 = d')
    (k : M (([o], R) :: acc) rest ⟨(t, d') :: sl, (o, b') :: hp, dk⟩) : M acc (⟨some t, op, ty, pos, after, gd⟩ :: rest) ⟨sl, hp, dk⟩ := by
  subst hd0
  subst hd
  subst hb
  rw [← hE.ti, ← hE.g] at e
  refine hM.step _ _ _ _ d [(o, b)] R (effG_of (opD_ok (env_lt hE ht) e hg fun T x y h => ?_) hgd) k
  subst h
  cases hs
theorem st_s (hE : Env C Ti G n) (hM : Stp C ops M) (e : opD Ti G ⟨sl, hp, dk⟩ none op = some (g, d, [(o, b)], R)) (hg : g) (hgd : gok ops ⟨sl, hp, dk⟩ gd) (hb : b = b')
    (k : M (([o], R) :: acc) rest ⟨sl, (o, b') :: hp, dk⟩) : M acc (⟨none, op, ty, pos, after, gd⟩ :: rest) ⟨sl, hp, dk⟩ := by
  subst hb
  rw [← hE.ti, ← hE.g] at e
  exact hM.step _ _ _ _ d [(o, b)] R (effG_of (opD_ok dstOk_none e hg fun T x y h => rfl) hgd) k
theorem st_n (hE : Env C Ti G n) (hM : Stp C ops M) (e : opD Ti G ⟨sl, hp, dk⟩ none op = some (g, d, [], R)) (hg : g) (hgd : gok ops ⟨sl, hp, dk⟩ gd)
    (k : M (([], R) :: acc) rest ⟨sl, hp, dk⟩) : M acc (⟨none, op, ty, pos, after, gd⟩ :: rest) ⟨sl, hp, dk⟩ := by
  rw [← hE.ti, ← hE.g] at e
  exact hM.step _ _ _ _ d [] R (effG_of (opD_ok dstOk_none e hg fun T x y h => rfl) hgd) k
/-- The guard is decided against. -/
theorem st_no (hE : Env C Ti G n) (hM : Stp C ops M) {gi u : Nat} {bb want : Bool} (hg : gsl ops gi = some u) (hs : frc ((⟨sl, hp, dk⟩ : St).slot u) = some (.bool bb)) (hb : bb = !want) (ht : Nat.blt t n = true)
    (k : M (([], []) :: acc) rest ⟨(t, .tup []) :: sl, hp, dk⟩) : M acc (⟨some t, op, ty, pos, after, some (gi, want)⟩ :: rest) ⟨sl, hp, dk⟩ :=
  hM.step _ _ _ _ (.tup []) [] [] (effG_no rfl hg (frc_ok hs) (by rw [hb]; cases want <;> simp) (env_lt hE ht)) k
theorem st_nu (hE : Env C Ti G n) (hM : Stp C ops M) {gi u : Nat} {want : Bool} (hg : gsl ops gi = some u) (hs : frc ((⟨sl, hp, dk⟩ : St).slot u) = some (.tup [])) (ht : Nat.blt t n = true)
    (k : M (([], []) :: acc) rest ⟨(t, .tup []) :: sl, hp, dk⟩) : M acc (⟨some t, op, ty, pos, after, some (gi, want)⟩ :: rest) ⟨sl, hp, dk⟩ :=
  hM.step _ _ _ _ (.tup []) [] [] (effG_nu rfl hg (frc_ok hs) (env_lt hE ht)) k
theorem st_no_ (hM : Stp C ops M) {gi u : Nat} {bb want : Bool} (hg : gsl ops gi = some u) (hs : frc ((⟨sl, hp, dk⟩ : St).slot u) = some (.bool bb)) (hb : bb = !want)
    (k : M (([], []) :: acc) rest ⟨sl, hp, dk⟩) : M acc (⟨none, op, ty, pos, after, some (gi, want)⟩ :: rest) ⟨sl, hp, dk⟩ :=
  hM.step _ _ _ _ (.tup []) [] [] (effG_no rfl hg (frc_ok hs) (by rw [hb]; cases want <;> simp) dstOk_none) k
theorem st_nu_ (hM : Stp C ops M) {gi u : Nat} {want : Bool} (hg : gsl ops gi = some u) (hs : frc ((⟨sl, hp, dk⟩ : St).slot u) = some (.tup []))
    (k : M (([], []) :: acc) rest ⟨sl, hp, dk⟩) : M acc (⟨none, op, ty, pos, after, some (gi, want)⟩ :: rest) ⟨sl, hp, dk⟩ :=
  hM.step _ _ _ _ (.tup []) [] [] (effG_nu rfl hg (frc_ok hs) dstOk_none) k
theorem st_cases {b : Bool} (h1 : b = true → M acc rest ⟨(t, .bool true) :: sl, hp, dk⟩) (h2 : b = false → M acc rest ⟨(t, .bool false) :: sl, hp, dk⟩) : M acc rest ⟨(t, .bool b) :: sl, hp, dk⟩ := by
  cases b
  · exact h2 rfl
  · exact h1 rfl
/-- The guard is open. -/
theorem st_if (hE : Env C Ti G n) (hM : Stp C ops M) {gi u : Nat} {bb want : Bool} (hgi : gsl ops gi = some u) (hs : frc ((⟨sl, hp, dk⟩ : St).slot u) = some (.bool bb)) (e : opD Ti G ⟨sl, hp, dk⟩ (some t) op = some (g, d, [], R)) (hg : bb = want → g) (ht : Nat.blt t n = true) (hd0 : d = d1) (hd : d1 = d')
    (k : M (([], R) :: acc) rest ⟨(t, .iff (bb == want) d') :: sl, hp, dk⟩) : M acc (⟨some t, op, ty, pos, after, some (gi, want)⟩ :: rest) ⟨sl, hp, dk⟩ := by
  subst hd0
  subst hd
  rw [← hE.ti, ← hE.g] at e
  refine hM.step _ _ _ _ (.iff (bb == want) d) [] R (effG_if rfl hgi (frc_ok hs) (env_lt hE ht) (fun h => opD_ok (env_lt hE ht) e (hg h) fun T x y h => ?_)) k
  subst h
  simp only [opD, evf_eq] at e
  split at e
  · obtain ⟨_, _, _, h⟩ := optO_ok e; cases h
  · cases e
theorem st_pickT (hE : Env C Ti G n) (hM : Stp C ops M) {c x y : Operand} (hc : frc (evg G ⟨sl, hp, dk⟩ c) = some (.bool true)) (hd : frc (evg G ⟨sl, hp, dk⟩ x) = some d') (ht : Nat.blt t n = true) (hgd : gok ops ⟨sl, hp, dk⟩ gd)
    (k : M (([], []) :: acc) rest ⟨(t, d') :: sl, hp, dk⟩) : M acc (⟨some t, .pick c x y, ty, pos, after, gd⟩ :: rest) ⟨sl, hp, dk⟩ := by
  have h1 := frc_ok hc
  have h2 := frc_ok hd
  rw [← hE.g, ← ev_g] at h1 h2
  subst h2
  exact hM.step _ _ _ _ _ [] [] (effG_of ((eff_pickT c x y h1 (env_lt hE ht)).weak (by simp [opsT, Op.operands]) (by simp)) hgd) k
theorem st_pickF (hE : Env C Ti G n) (hM : Stp C ops M) {c x y : Operand} (hc : frc (evg G ⟨sl, hp, dk⟩ c) = some (.bool false)) (hd : frc (evg G ⟨sl, hp, dk⟩ y) = some d') (ht : Nat.blt t n = true) (hgd : gok ops ⟨sl, hp, dk⟩ gd)
    (k : M (([], []) :: acc) rest ⟨(t, d') :: sl, hp, dk⟩) : M acc (⟨some t, .pick c x y, ty, pos, after, gd⟩ :: rest) ⟨sl, hp, dk⟩ := by
  have h1 := frc_ok hc
  have h2 := frc_ok hd
  rw [← hE.g, ← ev_g] at h1 h2
  subst h2
  exact hM.step _ _ _ _ _ [] [] (effG_of ((eff_pickF c x y h1 (env_lt hE ht)).weak (by simp [opsT, Op.operands]) (by simp)) hgd) k
/-- A call by a contract. -/
def outG (s : St) (outs : Option (List D)) (own : List Nat) : List (Nat × Ob) := outO s outs own
theorem st_call {P : Program} (hE : Env C Ti G n) (hM : Stp C ops M) (hP : C.P = P) {dst : Option Tmp} {f : Nat} {args : Array Operand} {ts : Array TypeId} (hok : fnOk P f) {ins : List D} {res : D} {outs : Option (List D)} (fc : FC P G f ins res outs)
    {own fro : List Nat} (hm : Mat ⟨sl, hp, dk⟩ (.tup (args.toList.map (evg G ⟨sl, hp, dk⟩))) (.tup ins) own fro) (hnd : own.Nodup) (hdis : ∀ o ∈ own, o ∉ fro)
    (hnr : fro = [] ∨ (res.nr = true ∧ ∀ cs, outs = some cs → cs.all D.nr0 = true)) (had : res.ad = true) (hout : RcvOk ⟨sl, hp, dk⟩ outs own (args.toList.map (evg G ⟨sl, hp, dk⟩))) (hd : dstOk n dst) (hgd : gok ops ⟨sl, hp, dk⟩ gd)
    {obs : List (Nat × Ob)} (ho : outO ⟨sl, hp, dk⟩ outs own ++ (adO (⟨sl, hp, dk⟩ : St).ob (dst.getD 0) res).2 = obs) (hd' : (adO (⟨sl, hp, dk⟩ : St).ob (dst.getD 0) res).1 = d') {R : List Nat} (hR : own ++ fro ++ (adO (⟨sl, hp, dk⟩ : St).ob (dst.getD 0) res).2.map (·.1) = R)
    (k : M ((obs.map (·.1), R) :: acc) rest (((⟨sl, hp, dk⟩ : St).lays obs).puto dst d')) : M acc (⟨dst, .call { callee := .value (.func f), args := args, argTypes := ts }, ty, pos, after, gd⟩ :: rest) ⟨sl, hp, dk⟩ := by
  subst hd'
  subst hR
  subst ho
  refine hM.step _ _ _ _ _ _ _ (effG_of ((eff_call (P := P) (G := G) (fo := .func f) (xs := args.toList) rfl hok fc hP hE.g (by rw [ev_g, hE.g]; exact hm) hnd hdis hnr had (by rw [ev_g, hE.g]; exact hout) (by rw [hE.n]; exact hd)).weak ?_ (fun _ h => h)) hgd) k
  intro z hz
  simp only [opsT, Op.operands, Call.operands, List.mem_flatMap] at hz ⊢
  rcases List.mem_append.1 hz with hz | hz
  · simp [opT] at hz
  · obtain ⟨x, hx, hz⟩ := List.mem_flatMap.1 hz
    exact ⟨x, by simp [hx], hz⟩
theorem st_c0 {P : Program} (hE : Env C Ti G n) (hM : Stp C ops M) (hP : C.P = P) {f : Nat} {args : Array Operand} {ts : Array TypeId} (hok : fnOk P f) {ins : List D} {res : D} {outs : Option (List D)} (fc : FC P G f ins res outs)
    {own fro : List Nat} (hm : Mat ⟨sl, hp, dk⟩ (.tup (args.toList.map (evg G ⟨sl, hp, dk⟩))) (.tup ins) own fro) (hnd : own.Nodup) (hdis : ∀ o ∈ own, o ∉ fro)
    (hnr : fro = [] ∨ (res.nr = true ∧ ∀ cs, outs = some cs → cs.all D.nr0 = true)) (had : res.ad = true) (hout : RcvOk ⟨sl, hp, dk⟩ outs own (args.toList.map (evg G ⟨sl, hp, dk⟩))) (ht : Nat.blt t n = true) (hgd : gok ops ⟨sl, hp, dk⟩ gd)
    (ho : outO ⟨sl, hp, dk⟩ outs own ++ (adO (⟨sl, hp, dk⟩ : St).ob t res).2 = []) (hd' : (adO (⟨sl, hp, dk⟩ : St).ob t res).1 = d') {R : List Nat} (hR : own ++ fro ++ (adO (⟨sl, hp, dk⟩ : St).ob t res).2.map (·.1) = R)
    (k : M (([], R) :: acc) rest ⟨(t, d') :: sl, hp, dk⟩) : M acc (⟨some t, .call { callee := .value (.func f), args := args, argTypes := ts }, ty, pos, after, gd⟩ :: rest) ⟨sl, hp, dk⟩ :=
  st_call hE hM hP hok fc hm hnd hdis hnr had hout (dstOk_some (by simpa [Nat.blt_eq] using ht)) hgd ho hd' hR k
theorem st_c1 {P : Program} (hE : Env C Ti G n) (hM : Stp C ops M) (hP : C.P = P) {f : Nat} {args : Array Operand} {ts : Array TypeId} (hok : fnOk P f) {ins : List D} {res : D} {outs : Option (List D)} (fc : FC P G f ins res outs)
    {own fro : List Nat} (hm : Mat ⟨sl, hp, dk⟩ (.tup (args.toList.map (evg G ⟨sl, hp, dk⟩))) (.tup ins) own fro) (hnd : own.Nodup) (hdis : ∀ o ∈ own, o ∉ fro)
    (hnr : fro = [] ∨ (res.nr = true ∧ ∀ cs, outs = some cs → cs.all D.nr0 = true)) (had : res.ad = true) (hout : RcvOk ⟨sl, hp, dk⟩ outs own (args.toList.map (evg G ⟨sl, hp, dk⟩))) (ht : Nat.blt t n = true) (hgd : gok ops ⟨sl, hp, dk⟩ gd)
    {o1 : Nat} {b1 b1' : Ob} (ho : outO ⟨sl, hp, dk⟩ outs own ++ (adO (⟨sl, hp, dk⟩ : St).ob t res).2 = [(o1, b1)]) (hd' : (adO (⟨sl, hp, dk⟩ : St).ob t res).1 = d') {R : List Nat} (hR : own ++ fro ++ (adO (⟨sl, hp, dk⟩ : St).ob t res).2.map (·.1) = R)
    (hb1 : b1 = b1') (k : M (([o1], R) :: acc) rest ⟨(t, d') :: sl, (o1, b1') :: hp, dk⟩) : M acc (⟨some t, .call { callee := .value (.func f), args := args, argTypes := ts }, ty, pos, after, gd⟩ :: rest) ⟨sl, hp, dk⟩   := by
  subst hb1
  exact st_call hE hM hP hok fc hm hnd hdis hnr had hout (dstOk_some (by simpa [Nat.blt_eq] using ht)) hgd ho hd' hR k
theorem st_c2 {P : Program} (hE : Env C Ti G n) (hM : Stp C ops M) (hP : C.P = P) {f : Nat} {args : Array Operand} {ts : Array TypeId} (hok : fnOk P f) {ins : List D} {res : D} {outs : Option (List D)} (fc : FC P G f ins res outs)
    {own fro : List Nat} (hm : Mat ⟨sl, hp, dk⟩ (.tup (args.toList.map (evg G ⟨sl, hp, dk⟩))) (.tup ins) own fro) (hnd : own.Nodup) (hdis : ∀ o ∈ own, o ∉ fro)
    (hnr : fro = [] ∨ (res.nr = true ∧ ∀ cs, outs = some cs → cs.all D.nr0 = true)) (had : res.ad = true) (hout : RcvOk ⟨sl, hp, dk⟩ outs own (args.toList.map (evg G ⟨sl, hp, dk⟩))) (ht : Nat.blt t n = true) (hgd : gok ops ⟨sl, hp, dk⟩ gd)
    {o1 o2 : Nat} {b1 b2 b1' b2' : Ob} (ho : outO ⟨sl, hp, dk⟩ outs own ++ (adO (⟨sl, hp, dk⟩ : St).ob t res).2 = [(o1, b1), (o2, b2)]) (hd' : (adO (⟨sl, hp, dk⟩ : St).ob t res).1 = d') {R : List Nat} (hR : own ++ fro ++ (adO (⟨sl, hp, dk⟩ : St).ob t res).2.map (·.1) = R)
    (hb1 : b1 = b1') (hb2 : b2 = b2') (k : M (([o1, o2], R) :: acc) rest ⟨(t, d') :: sl, (o2, b2') :: (o1, b1') :: hp, dk⟩) : M acc (⟨some t, .call { callee := .value (.func f), args := args, argTypes := ts }, ty, pos, after, gd⟩ :: rest) ⟨sl, hp, dk⟩   := by
  subst hb1
  subst hb2
  exact st_call hE hM hP hok fc hm hnd hdis hnr had hout (dstOk_some (by simpa [Nat.blt_eq] using ht)) hgd ho hd' hR k
end
end Go.Proofs.YtabkpoklihkifaaDoor

/- The judgement over code in the abstract state. Over any program. -/
namespace Go.Proofs.YtabkpoklihkifaaDoor
open Go Go.RowKit
set_option linter.unusedVariables false
set_option linter.unusedSimpArgs false

/-- Where the walk is: in a call, or in a round. -/
def fen : Option Nat → Fence
  | none => Fence.wide
  | some l => Fence.wide.inRound l
/-- From s, the code ends in a state of which Q says so. -/
def VC (C : Ctx) (c : Code) (s : St) (Q : Exit → St → Prop) : Prop :=
  ∀ m a w, Rep C s a w → c.wpIn (fen C.rnd) m C.P (fun e a' w' => ∃ s', Rep C s' a' w' ∧ Q e s') a w
def noDefer (ops : Array Oper) : Bool := ops.toList.all fun o => match o.op with | .defer _ => false | _ => true
theorem wpIn_of_wp {P : Program} {o : Oper} {a : Act} {w : World} {K : Act → World → Prop} {Q : Exit → Act → World → Prop} {m : Nat} {l : Option Nat} (hd : ∀ c, o.op ≠ .defer c) (h : o.wp P a w K Q) : o.wpIn (fen l) m P a w K Q := by
  refine ⟨fun _ _ => by cases l <;> trivial, ?_⟩
  have e : o.semAt (fen l).round a.eval = execOp a.eval o := by
    cases l with
    | none => rfl
    | some l => exact Oper.semAt_some l a.eval o hd
  rw [e]
  unfold Oper.wp at h
  generalize (execOp a.eval o).run P w = r at *
  cases r with
  | ok n w' =>
    cases n with
    | value v => exact h
    | skip => exact h
    | defer d => exact h
    | enter f args => exact ⟨fun hs => (by cases l <;> cases hs), by
        cases l with
        | none => exact callsIn_wide.2 h
        | some l => exact CallsIn.inRound l (callsIn_wide.2 h)⟩
    | row r args => exact ⟨fun hs => (by cases l <;> cases hs), fun c cs _ => by
        obtain ⟨v, w', q, st⟩ := h c cs
        cases l with
        | none => exact ⟨v, w', q, stepsIn_wide.2 st⟩
        | some l => exact ⟨v, w', q, stepsIn_wide.2 st⟩⟩
    | _ => exact h.elim
  | halt x w' => cases x <;> first | exact h | exact h.elim
theorem step_in {ops : Array Oper} {P : Program} {o : Oper} {a : Act} {w : World} {K : Act → World → Prop} {Q : Exit → Act → World → Prop} {m : Nat} {l : Option Nat} (hd : ∀ c, o.op ≠ .defer c) (h : if Region.wanted o (yielded ops a.tmps) then o.wp P a w K Q else K (a.put o.dst undef) w) :
    if Region.wanted o (yielded ops a.tmps) then o.wpIn (fen l) m P a w K Q else (∀ f, o.about P w a.eval = some f → (fen l).fn f) ∧ K (a.put o.dst undef) w := by
  split
  · rename_i hw; rw [if_pos hw] at h; exact wpIn_of_wp hd h
  · rename_i hw; rw [if_neg hw] at h; exact ⟨fun _ _ => by cases l <;> trivial, h⟩
theorem noDefer_of {ops : Array Oper} (h : noDefer ops = true) {o : Oper} (ho : o ∈ ops.toList) : ∀ c, o.op ≠ .defer c := by
  intro c e
  have := List.all_eq_true.1 h o ho
  rw [e] at this
  cases this
def thenS (K : St → Prop) (Q : Exit → St → Prop) : Exit → St → Prop
  | .normal, s => K s
  | e, s => Q e s
def inS (id : Nat) (Q : Exit → St → Prop) : Exit → St → Prop
  | .exit id', s => if id' = id then Q .normal s else Q (.exit id') s
  | e, s => Q e s
/-- Less is known. -/
def Wk (C : Ctx) (s s' : St) : Prop := ∀ a w, Rep C s a w → Rep C s' a w

section
variable {C : Ctx} {s s' : St} {x y c : Code} {Q Q' : Exit → St → Prop}
theorem VC.mono (h : VC C c s Q) (hq : ∀ e s, Q e s → Q' e s) : VC C c s Q' :=
  fun m a w hr => wpIn_mono (h m a w hr) (fun e a w ⟨s', h1, h2⟩ => ⟨s', h1, hq _ _ h2⟩)
theorem VC.weak (h : VC C c s' Q) (hw : Wk C s s') : VC C c s Q := fun m a w hr => h m a w (hw a w hr)
theorem Wk.refl (C : Ctx) (s : St) : Wk C s s := fun _ _ h => h
theorem Wk.trans {s'' : St} (h : Wk C s s') (h' : Wk C s' s'') : Wk C s s'' := fun a w hr => h' a w (h a w hr)
theorem vc_seq (h : ∀ K : St → Prop, (∀ s', VC C y s' Q → K s') → VC C x s (thenS K Q)) : VC C (.seq x y) s Q :=
  fun m a w hr => wpIn_seq (wpIn_mono (h (fun s' => VC C y s' Q) (fun _ h => h) m a w hr) (fun e a w ⟨s', h1, h2⟩ => by
    cases e <;> first | exact h2 m a w h1 | exact ⟨s', h1, h2⟩))
theorem ev_bool {G : Nat → Option D} (hG : C.G = G) {a : Act} {w : World} (hr : Rep C s a w) {o : Operand} {b : Bool} (hc : frc (evg G s o) = some (.bool b)) : a.eval o = .bool b := by
  obtain ⟨_, _, ρ, S, Φ, h1, h2⟩ := hr
  have := ev_rv h1 h2 o
  rw [ev_g, hG, frc_ok hc] at this
  exact inv_bool this
theorem vc_cond {Ti : Nat → TI} {G : Nat → Option D} {n : Nat} (hE : Env C Ti G n) {o : Operand} {b : Bool} (hc : frc (evg G s o) = some (.bool b)) (ht : b = true → VC C x s Q) (hf : b = false → VC C y s Q) : VC C (.cond o x y) s Q :=
  fun m a w hr => wpIn_cond_split (ev_bool hE.g hr hc) (fun h => ht h m a w hr) (fun h => hf h m a w hr)
theorem vc_true {Ti : Nat → TI} {G : Nat → Option D} {n : Nat} (hE : Env C Ti G n) {o : Operand} {b : Bool} (hc : frc (evg G s o) = some (.bool b)) (hb : b = true) (ht : VC C x s Q) : VC C (.cond o x y) s Q :=
  vc_cond hE hc (fun _ => ht) (fun h => by rw [hb] at h; cases h)
theorem vc_false {Ti : Nat → TI} {G : Nat → Option D} {n : Nat} (hE : Env C Ti G n) {o : Operand} {b : Bool} (hc : frc (evg G s o) = some (.bool b)) (hb : b = false) (hf : VC C y s Q) : VC C (.cond o x y) s Q :=
  vc_cond hE hc (fun h => by rw [hb] at h; cases h) (fun _ => hf)
theorem vc_skip (h : Q .normal s) : VC C .skip s Q := fun m a w hr => wpIn_skip ⟨s, hr, h⟩
theorem vc_exit {id : Nat} (h : Q (.exit id) s) : VC C (.exit id) s Q := fun m a w hr => wpIn_exit ⟨s, hr, h⟩
theorem vc_ret (h : Q .ret s) : VC C .ret s Q := fun m a w hr => wpIn_ret ⟨s, hr, h⟩
theorem vc_block {id : Nat} (h : VC C c s (inS id Q)) : VC C (.block id c) s Q :=
  fun m a w hr => wpIn_block (wpIn_mono (h m a w hr) (fun e a w ⟨s', h1, h2⟩ => by
    cases e with
    | exit id' =>
      simp only [Exit.inBlock]
      simp only [inS] at h2
      split
      · rename_i hid; rw [if_pos hid] at h2; exact ⟨s', h1, h2⟩
      · rename_i hid; rw [if_neg hid] at h2; exact ⟨s', h1, h2⟩
    | _ => exact ⟨s', h1, h2⟩))
theorem vc_region {id : Nat} {ops : Array Oper} (hnd : noDefer ops = true) (h : ∀ M, Stp C ops M → (∀ acc rest s s', Wk C s s' → M acc rest s' → M acc rest s) → (∀ acc s', Q .normal s' → M acc [] s') → M [] ops.toList s) : VC C (.region id ops false) s Q := by
  intro m a w hr
  refine wpIn_region_list ?_
  refine h (fun _ rest s => (∀ o ∈ rest, ∀ c, o.op ≠ .defer c) → ∀ a w, Rep C s a w → wpListIn (fen C.rnd) m C.P ops (fun e a' w' => ∃ s', Rep C s' a' w' ∧ Q e s') rest a w) ⟨?_⟩ (fun acc rest s s' hW h hnd a w hr => h hnd a w (hW a w hr)) (fun acc s' hq _ a w hr => ⟨s', hr, hq⟩) (fun o ho => noDefer_of hnd ho) a w hr
  intro acc o rest s d obs R he hk hnd' a w hr
  have h1 := he s (fun _ _ => rfl) (fun _ _ => rfl) (wpListIn (fen C.rnd) m C.P ops (fun e a' w' => ∃ s', Rep C s' a' w' ∧ Q e s') rest) (fun e a' w' => ∃ s', Rep C s' a' w' ∧ Q e s') a w hr (hk (fun o ho => hnd' o (List.mem_cons_of_mem _ ho)))
  exact step_in (hnd' o (by simp)) h1

/-! Loops. -/
theorem vc_loop {α : Type} (I : α → St) (J : α → Prop) (μ : α → Nat) (x0 : α) (h0 : Wk C s (I x0)) (hj : J x0)
    (round : ∀ x, J x → ∀ K : St → Prop, (∀ s' x', Wk C s' (I x') → J x' → μ x' < μ x → K s') → VC C c (I x) (thenS K Q)) : VC C (.loop c) s Q := by
  intro m a w hr
  classical
  have hex : ∀ a w, (∃ x, J x ∧ Rep C (I x) a w) → ∃ n x, J x ∧ Rep C (I x) a w ∧ μ x = n := fun a w ⟨x, h1, h2⟩ => ⟨μ x, x, h1, h2, rfl⟩
  have hmin : ∀ (p : Nat → Prop), (∃ n, p n) → ∃ n, p n ∧ ∀ m, p m → n ≤ m := by
    intro p ⟨n, hn⟩
    induction n using Nat.strongRecOn with
    | _ n ih =>
      by_cases h : ∃ m, m < n ∧ p m
      · obtain ⟨m, h1, h2⟩ := h; exact ih m h1 h2
      · exact ⟨n, hn, fun m hm => Nat.le_of_not_lt fun h' => h ⟨m, h', hm⟩⟩
  let rk : Act → World → Nat := fun a w => if h : ∃ x, J x ∧ Rep C (I x) a w then Classical.choose (hmin _ (hex a w h)) else 0
  have hrk : ∀ a w (h : ∃ x, J x ∧ Rep C (I x) a w), (∃ x, J x ∧ Rep C (I x) a w ∧ μ x = rk a w) ∧ ∀ x, J x → Rep C (I x) a w → rk a w ≤ μ x := by
    intro a w h
    have e : rk a w = Classical.choose (hmin _ (hex a w h)) := dif_pos h
    rw [e]
    obtain ⟨h1, h2⟩ := Classical.choose_spec (hmin _ (hex a w h))
    exact ⟨h1, fun x hx hr => h2 _ ⟨x, hx, hr, rfl⟩⟩
  refine wpIn_loop (fun a w => ∃ x, J x ∧ Rep C (I x) a w) rk ⟨x0, hj, h0 a w hr⟩ ?_
  intro a w hI
  obtain ⟨⟨x, hx, hrx, hμ⟩, _⟩ := hrk a w hI
  refine wpIn_mono (round x hx (fun s' => ∃ x', Wk C s' (I x') ∧ J x' ∧ μ x' < μ x) (fun s' x' h1 h2 h3 => ⟨x', h1, h2, h3⟩) m a w hrx) ?_
  rintro e a' w' ⟨s', h1, h2⟩
  cases e with
  | normal =>
    obtain ⟨x', k1, k2, k3⟩ := h2
    have hr' := k1 a' w' h1
    exact ⟨⟨x', k2, hr'⟩, Nat.lt_of_le_of_lt ((hrk a' w' ⟨x', k2, hr'⟩).2 x' k2 hr') (hμ ▸ k3)⟩
  | _ => exact ⟨s', h1, h2⟩
end

/-- Where roads come together: what comes behind is walked once. -/
theorem vc_join {C : Ctx} {y : Code} {Q : Exit → St → Prop} {K : St → Prop} (hK : ∀ s', VC C y s' Q → K s') {α : Type} (J : α → Prop) (I : α → St) {G : Prop} (hj : ∀ x, J x → VC C y (I x) Q) (k : (∀ x, J x → ∀ s', Wk C s' (I x) → K s') → G) : G :=
  k fun x hx s' hw => hK s' ((hj x hx).weak hw)

/-! The objects that a value names. -/
mutual
def D.nm : D → List Nat
  | .ptr o _ _ => [o]
  | .sl o _ _ _ => [o]
  | .chunko _ o _ _ _ _ => [o]
  | .ros _ _ cs => nmL cs
  | .rop _ cs => nmL cs
  | .agg cs => nmL cs
  | .tup cs => nmL cs
  | .owns _ _ cs => nmL cs
  | .ownp cs => nmL cs
  | .iff _ d => d.nm
  | _ => []
def nmL : List D → List Nat
  | [] => []
  | d :: r => d.nm ++ nmL r
end
theorem nm_get : ∀ {cs : List D} {i : Nat} {c : D}, cs[i]? = some c → ∀ o ∈ c.nm, o ∈ nmL cs
  | [], i, c, h => by simp at h
  | d :: r, 0, c, h => by simp at h; subst h; intro o ho; simp [nmL, ho]
  | d :: r, i + 1, c, h => by intro o ho; have := nm_get (cs := r) (by simpa using h) o ho; simp [nmL, this]
theorem nmL_append (a b : List D) : nmL (a ++ b) = nmL a ++ nmL b := by
  induction a with
  | nil => rfl
  | cons d r ih => simp [nmL, ih]
theorem nmL_map {α : Type} (f : α → D) (h : ∀ x, (f x).nm = []) (l : List α) : nmL (l.map f) = [] := by
  induction l with
  | nil => rfl
  | cons x r ih => simp [nmL, ih, h]
theorem nm_pf {d : D} (h : d.pf0 = true) : d.nm = [] := by cases d <;> first | rfl | (cases h; done)
theorem nmL_pf {cs : List D} (h : cs.all D.pf0 = true) : nmL cs = [] := by
  induction cs with
  | nil => rfl
  | cons d r ih =>
    simp only [List.all_cons, Bool.and_eq_true] at h
    have : d.nm = [] := by cases d <;> first | rfl | (cases h.1; done)
    simp [nmL, this, ih h.2]
theorem RV.names {w : World} {S : Nat → Prop} {ρ : Nat → Pl} {H H' : Nat → Sh} {d : D} {v : Value} {F : List Nat} (h : RV w S ρ H d v F) : (∀ o ∈ d.nm, H' o = H o) → RV w S ρ H' d v F := by
  induction h with
  | bot v => intro _; exact .bot v
  | bool b => intro _; exact .bool b
  | int k n => intro _; exact .int k n
  | u8 x => intro _; exact .u8 x
  | u32 x => intro _; exact .u32 x
  | str l => intro _; exact .str l
  | nilP => intro _; exact .nilP
  | nilS => intro _; exact .nilS
  | nilF => intro _; exact .nilF
  | fn f => intro _; exact .fn f
  | ptr o g off v h1 hg h => intro e; have := e o (by simp [D.nm]); exact .ptr o g off v h1 (by rw [this]; exact hg) (by rw [this]; exact h)
  | sl o g off len v h1 hg h => intro e; have := e o (by simp [D.nm]); exact .sl o g off len v h1 (by rw [this]; exact hg) (by rw [this]; exact h)
  | rob l A n cap h => intro _; exact .rob l A n cap h
  | ros s n cs A cap b off us hl hn hm hA hc hr ih => intro e; exact .ros s n cs A cap b off us hl hn hm hA hc (fun i c p => ih i c p fun o ho => e o (by simp only [D.nm]; exact nm_get p o ho))
  | rop off cs b base us hb hc hr ih => intro e; exact .rop off cs b base us hb hc (fun i c p => ih i c p fun o ho => e o (by simp only [D.nm]; exact nm_get p o ho))
  | rof s n f A cap b off us hn hm hp hA hc hr ih => intro _; exact .rof s n f A cap b off us hn hm hp hA hc (fun i j hi hj => ih i j hi hj (by rw [nm_pf (hp i j hi hj)]; simp))
  | rpf k j s n f b base us hb hp hc hr ih => intro _; exact .rpf k j s n f b base us hb hp hc (fun i j hi hj => ih i j hi hj (by rw [nm_pf (hp i j hi hj)]; simp))
  | rpb k l b base hb hc => intro _; exact .rpb k l b base hb hc
  | lsl n A cap hn hm => intro _; exact .lsl n A cap hn hm
  | aggb l => intro _; exact .aggb l
  | agg cs vs Fs F hv hf hF hr ih => intro e; exact .agg cs vs Fs F hv hf hF (fun i c u f h1 h2 h3 => ih i c u f h1 h2 h3 fun o ho => e o (by simp only [D.nm]; exact nm_get h1 o ho))
  | tup cs vs Fs F hv hf hF hr ih => intro e; exact .tup cs vs Fs F hv hf hF (fun i c u f h1 h2 h3 => ih i c u f h1 h2 h3 fun o ho => e o (by simp only [D.nm]; exact nm_get h1 o ho))
  | iff c d v h h0 ih => intro e; exact .iff c d v (fun hc => ih hc fun o ho => e o (by simp only [D.nm]; exact ho)) h0
  | chunk f l n b1 b2 A m cap h1 h2 h hc1 hc2 => intro _; exact .chunk f l n b1 b2 A m cap h1 h2 h hc1 hc2
  | chunko f o g off len n b1 b2 A cap h1 h2 hm hg h hc1 hc2 => intro e; have := e o (by simp [D.nm]); exact .chunko f o g off len n b1 b2 A cap h1 h2 hm (by rw [this]; exact hg) (by rw [this]; exact h) hc1 hc2
  | ownb l A n cap F cur off hl h hc => intro _; exact .ownb l A n cap F cur off hl h hc
  | owns s n cs A cap F F0 Fs cur off hl h hf hF hr ih => intro e; exact .owns s n cs A cap F F0 Fs cur off hl h hf hF (fun i c u f h1 h2 h3 => ih i c u f h1 h2 h3 fun o ho => e o (by simp only [D.nm]; exact nm_get h1 o ho))
  | ownp cs b base cur E fz F Fs hh hz hs hf hF hr ih => intro e; exact .ownp cs b base cur E fz F Fs hh hz hs hf hF (fun i c u f h1 h2 h3 => ih i c u f h1 h2 h3 fun o ho => e o (by simp only [D.nm]; exact nm_get h1 o ho))
def ctNm : Option Cont → List Nat
  | some (.cells cs) => nmL cs
  | _ => []
/-- What a state is to keep, of slots and of objects. -/
def slOk (s : St) (ns : List Nat) : List (Nat × D) → Prop
  | [] => True
  | (t, d) :: r => (s.slot t = d ∧ ∀ o ∈ d.nm, o ∈ ns) ∧ slOk s ns r
def hpOk (s : St) (ns : List Nat) : List (Nat × Ob) → Prop
  | [] => True
  | (o, ob) :: r => (s.ob o = ob ∧ ∀ x ∈ ctNm ob.ct, x ∈ ns) ∧ hpOk s ns r
theorem slOk_get {s : St} {ns : List Nat} : ∀ {l : List (Nat × D)}, slOk s ns l → ∀ t, look .bot l t = .bot ∨ (s.slot t = look .bot l t ∧ ∀ o ∈ (look .bot l t).nm, o ∈ ns)
  | [], _, t => .inl rfl
  | (u, d) :: r, h, t => by
    simp only [look]
    split
    · rename_i e; subst e; exact .inr h.1
    · exact slOk_get h.2 t
theorem hpOk_get {s : St} {ns : List Nat} : ∀ {l : List (Nat × Ob)}, hpOk s ns l → ∀ o, o ∈ l.map (·.1) → s.ob o = look .no l o ∧ ∀ x ∈ ctNm (look .no l o).ct, x ∈ ns
  | [], _, o, ho => by simp at ho
  | (u, b) :: r, h, o, ho => by
    simp only [look]
    split
    · rename_i e; subst e; exact h.1
    · rename_i e
      refine hpOk_get h.2 o ?_
      simp only [List.map_cons, List.mem_cons] at ho
      exact ho.resolve_left (fun e' => e e'.symm)
theorem look_none : ∀ (l : List (Nat × Ob)) (o : Nat), o ∉ l.map (·.1) → look .no l o = .no
  | [], o, _ => rfl
  | (u, b) :: r, o, h => by
    simp only [List.map_cons, List.mem_cons, not_or] at h
    simp only [look]
    rw [if_neg (fun e => h.1 e.symm)]
    exact look_none r o h.2
/-- LESS IS KEPT. -/
theorem wk_ofk {C : Ctx} {s : St} {sl' : List (Nat × D)} {hp' : List (Nat × Ob)} {dk : List Nat} (hdk : dk = s.dk) (hs : slOk s (hp'.map (·.1)) sl') (hh : hpOk s (hp'.map (·.1)) hp') (hrc : ∀ d v, C.keep d v → ∀ o ∈ d.nm, o ∈ hp'.map (·.1)) : Wk C s ⟨sl', hp', dk⟩ := by
  subst hdk
  intro a w hr
  obtain ⟨h1, h2, ρ, S, Φ, h3, h4⟩ := hr
  have hin : ∀ o, o ∈ hp'.map (·.1) → (⟨sl', hp', s.dk⟩ : St).ob o = s.ob o := fun o ho => (hpOk_get hh o ho).1.symm
  have hsh : ∀ o, o ∈ hp'.map (·.1) → (⟨sl', hp', s.dk⟩ : St).sh o = s.sh o := fun o ho => by unfold St.sh; rw [hin o ho]
  have hlive : ∀ o c, ((⟨sl', hp', s.dk⟩ : St).ob o).ct = some c → o ∈ hp'.map (·.1) ∧ (s.ob o).ct = some c := fun o c hc => by
    by_cases ho : o ∈ hp'.map (·.1)
    · exact ⟨ho, by rw [← hin o ho]; exact hc⟩
    · have : (⟨sl', hp', s.dk⟩ : St).ob o = .no := look_none _ _ ho
      rw [this] at hc
      cases hc
  refine ⟨h1, h2, ρ, S, Φ, ⟨h3.os, h3.tape, h3.output, h3.size, h3.szs, h3.fr, h3.s0, h3.s1, h3.sc, fun g cs hg => (h3.gl g cs hg).names (fun o ho => ?_), fun o c hc => ?_, fun d v hv => (h3.rv d v hv).names fun o ho => hsh o (hrc d v hv o ho), h3.dk, h3.dkn, fun o c hc => h3.own o c (hlive o c hc).2, fun o o' c c' hc hc' => h3.dis o o' c c' (hlive o c hc).2 (hlive o' c' hc').2⟩, fun t => ?_⟩
  · have : cs.nm = [] := nm_pf (C.gp g cs hg)
    rw [this] at ho
    cases ho
  · obtain ⟨ho, hc'⟩ := hlive o c hc
    obtain ⟨q1, q2⟩ := h3.ob o c hc'
    rw [hsh o ho]
    refine ⟨q1, ?_⟩
    rcases q2 with q2 | ⟨cur, E, fz, Fs, k1, k2, k3, k4, k5, k6⟩
    · exact .inl q2
    · refine .inr ⟨cur, E, fz, Fs, k1, k2, k3, k4, k5, ?_⟩
      cases c with
      | bytes l => exact k6
      | cells cs =>
        refine ⟨k6.1, fun i c u f p1 p2 p3 => (k6.2 i c u f p1 p2 p3).names fun x hx => hsh x ?_⟩
        have := (hpOk_get hh o ho).2 x
        have e : look .no hp' o = s.ob o := hin o ho
        rw [e, hc'] at this
        exact this (nm_get p1 x hx)
  · rcases slOk_get hs t with h | ⟨h, hn⟩
    · show RV w S ρ _ (look .bot sl' t) _ []
      rw [h]
      exact .bot _
    · show RV w S ρ _ (look .bot sl' t) _ []
      rw [← h]
      refine (h4 t).names fun o ho => hsh o (hn o ?_)
      rw [← h]
      exact ho
theorem wk_of {C : Ctx} {s : St} {sl' : List (Nat × D)} {hp' : List (Nat × Ob)} {dk : List Nat} (hdk : dk = s.dk) (hs : slOk s (hp'.map (·.1)) sl') (hh : hpOk s (hp'.map (·.1)) hp') (hrc : ∀ d v, ¬ C.keep d v) : Wk C s ⟨sl', hp', dk⟩ :=
  wk_ofk hdk hs hh (fun d v h => absurd h (hrc d v))
theorem wk_of9 {C : Ctx} {s : St} {sl' : List (Nat × D)} {hp' : List (Nat × Ob)} {dk : List Nat} (hdk : dk = s.dk) (hs : slOk s (hp'.map (·.1)) sl') (hh : hpOk s (hp'.map (·.1)) hp') (hrc : ∀ d v, C.keep d v → d = .ptr 900 1 0) (h9 : 900 ∈ hp'.map (·.1)) : Wk C s ⟨sl', hp', dk⟩ :=
  wk_ofk hdk hs hh (fun d v h o ho => by
    rw [hrc d v h] at ho
    obtain rfl : o = 900 := by simpa [D.nm] using ho
    exact h9)
end Go.Proofs.YtabkpoklihkifaaDoor

/- From a walk to a contract. Over any program. -/
namespace Go.Proofs.YtabkpoklihkifaaDoor
open Go Go.RowKit
set_option linter.unusedVariables false
set_option linter.unusedSimpArgs false

def numb : Nat → List D → List (Nat × D)
  | _, [] => []
  | i, d :: r => (i, d) :: numb (i + 1) r
/-- The state at a function's beginning. -/
def inSt (ins : List D) : St := ⟨numb 0 (adoptT ⟨[], [], []⟩ 900 ins).1, (adoptT ⟨[], [], []⟩ 900 ins).2.hp, []⟩
def resD (ts : List Nat) (s : St) : D :=
  match ts with
  | [t] => s.slot t
  | ts => .tup (ts.map s.slot)
def resV (ts : List Nat) (tmps : Array Value) : Value :=
  match ts with
  | [t] => tmps.getD t undef
  | ts => .tuple (ts.map fun t => tmps.getD t undef).toArray
/-- The end of a function. -/
def Fin (ts : List Nat) (res : D) (outs : Option (List D)) (s : St) : Prop :=
  ∃ own fro : List Nat, own.Nodup ∧ (∀ o ∈ own, o ∉ fro) ∧ s.dk = s.dk ∧
    match outs with
    | none => Mat s (.tup [resD ts s]) (.tup [res]) own fro
    | some cs => Mat s (.tup [resD ts s, .ptr 900 1 0]) (.tup [res, .ownp cs]) own fro
structure RetQ (ts : List Nat) (res : D) (outs : Option (List D)) (e : Exit) (s : St) : Prop where
  e : e = .normal ∨ e = .ret
  fin : Fin ts res outs s

theorem run_results {fn : Func} {ts : List Nat} (h : fn.results = (ts.map ResultVar.tmp).toArray) (hl : ts.length ≤ 5) (tmps : Array Value) (P : Program) (w : World) : (results fn tmps).run P w = .ok (resV ts tmps) w := by
  rcases ts with _ | ⟨a, _ | ⟨b, _ | ⟨c, _ | ⟨d, _ | ⟨e, _ | ⟨f, r⟩⟩⟩⟩⟩⟩
  · simp [results, h, resV]
  · simp [results, h, resV]
  · simp [results, h, resV]
  · simp [results, h, resV]
  · simp [results, h, resV]
  · simp [results, h, resV]
  · simp at hl
theorem resD_ok {w : World} {S : Nat → Prop} {ρ : Nat → Pl} {H : Nat → Sh} {s : St} {tmps : Array Value} (h : ∀ t, RV w S ρ H (s.slot t) (tmps.getD t undef) []) (ts : List Nat) : RV w S ρ H (resD ts s) (resV ts tmps) [] := by
  have key : RV w S ρ H (.tup (ts.map s.slot)) (.tuple (ts.map fun t => tmps.getD t undef).toArray) [] := RV.tup0 (by simp) fun i c u h1 h2 => by
    rw [List.getElem?_map] at h1 h2
    rcases hx : ts[i]? with _ | t
    · rw [hx] at h1; cases h1
    · rw [hx] at h1 h2
      injection h1 with h1
      injection h2 with h2
      subst h1; subst h2
      exact h t
  unfold resD resV
  rcases ts with _ | ⟨a, _ | ⟨b, r⟩⟩
  · exact key
  · exact h a
  · exact key
theorem numb_look : ∀ (ds : List D) (i t : Nat), look .bot (numb i ds) t = if i ≤ t then ds.getD (t - i) .bot else .bot
  | [], i, t => by simp [numb, look]
  | d :: r, i, t => by
    simp only [numb, look]
    rcases Nat.lt_trichotomy t i with h | h | h
    · rw [if_neg (by omega), if_neg (by omega), numb_look r (i + 1) t, if_neg (by omega)]
    · subst h; simp
    · rw [if_neg (by omega), if_pos (by omega), numb_look r (i + 1) t, if_pos (by omega)]
      have : t - i = (t - (i + 1)) + 1 := by omega
      rw [this, List.getD_cons_succ]
theorem base_rep {P : Program} {G : Nat → Option D} {w : World} {S : Nat → Prop} {M : List Nat} (gp : ∀ g cs, G g = some cs → cs.pf0 = true) (n : Nat) (hS : SOk w S) (hG : GlOk G w S) :
    RepW ⟨P, w, M, S, G, gp, n, fun _ _ => False, none⟩ ⟨[], [], []⟩ ρ0 S (fun _ => []) w :=
  ⟨rfl, rfl, rfl, Nat.le_refl _, Szs.refl w, fun _ _ _ => rfl, fun _ h => h, fun b hb => ⟨hS.lt hb, .inl hb⟩, hS, fun g cs hg => hG g cs hg, fun o c hc => (by cases hc), fun d v hv => hv.elim, fun r hr => (by cases hr), ⟨by simp, by simp⟩, fun o c hc => (by cases hc), fun o o' c c' hc => (by cases hc)⟩
theorem rep_recv {C : Ctx} {s : St} {ρ : Nat → Pl} {S : Nat → Prop} {Φ : Nat → List Nat} {w : World} (h : RepW C s ρ S Φ w) (r : D → Value → Prop) (hr : ∀ d v, r d v → RV w S ρ s.sh d v []) : RepW { C with keep := r } s ρ S Φ w :=
  ⟨h.os, h.tape, h.output, h.size, h.szs, h.fr, h.s0, h.s1, h.sc, h.gl, h.ob, hr, h.dk, h.dkn, h.own, h.dis⟩
/-- The receiver is the first of the arguments. -/
def OutOk (ins : List D) : Option (List D) → Prop
  | none => True
  | some _ => ∃ cs r, ins = .ownp cs :: r
/-- What a walk may know of its call. -/
structure CxOk (P : Program) (Ti : Nat → TI) (G : Nat → Option D) (n : Nat) (outs : Option (List D)) (C : Ctx) : Prop where
  env : Env C Ti G n
  p : C.P = P
  recv : outs = none → ∀ d v, ¬ C.keep d v
  recv9 : ∀ d v, C.keep d v → d = .ptr 900 1 0
  rn : C.rnd = none

/-- How a call begins. -/
theorem in_rep {P : Program} {G : Nat → Option D} {ins : List D} {outs : Option (List D)} {n : Nat} (gp : ∀ g cs, G g = some cs → cs.pf0 = true) (had : D.adL ins = true) (hn : ins.length ≤ n) (ho : OutOk ins outs)
    {w : World} {S : Nat → Prop} {vs : List Value} {Fs : List (List Nat)} (hS : SOk w S) (hG : GlOk G w S) (h1 : vs.length = ins.length) (h2 : Fs.length = ins.length)
    (h3 : ∀ (i : Nat) (d : D) (v : Value) (F : List Nat), ins[i]? = some d → vs[i]? = some v → Fs[i]? = some F → NV w S d v F) (h4 : Fs.flatten.Nodup) (h5 : ∀ b ∈ Fs.flatten, ¬ S b ∧ b < w.heap.size) :
    Rep ⟨P, w, Fs.flatten, S, G, gp, n, fun d v => outs.isSome = true ∧ d = .ptr 900 1 0 ∧ v = vs.getD 0 undef, none⟩ (inSt ins) { tmps := vs.toArray ++ Array.replicate (n - vs.length) undef, defers := [] } w := by
  obtain ⟨ρ', Φ', k1, k2, k3, k4⟩ := adoptT_ok (X := []) (base_rep (P := P) (M := Fs.flatten) gp n hS hG) 900 ins had h1 h2 (by
    rw [List.append_nil]
    exact ⟨h4, fun b hb => ⟨(h5 b hb).1, (h5 b hb).2, .inr hb, by simp, fun o c hc => by cases hc⟩⟩) h3
  have hsh : (inSt ins).sh = (adoptT ⟨[], [], []⟩ 900 ins).2.sh := rfl
  have k1' : RepW ⟨P, w, Fs.flatten, S, G, gp, n, fun _ _ => False, none⟩ (inSt ins) ρ' S Φ' w := k1.congr (fun o => rfl) (by
    show [] = (adoptT ⟨[], [], []⟩ 900 ins).2.dk
    rw [adTO_eq]
    rw [lays_dk])
  refine ⟨rfl, by simp; omega, ρ', S, Φ', rep_recv (r := fun d v => outs.isSome = true ∧ d = .ptr 900 1 0 ∧ v = vs.getD 0 undef) k1' (fun d v hv => ?_), fun t => ?_⟩
  · rcases outs with _ | cs
    · cases hv.1
    · obtain ⟨cs0, r, rfl⟩ := ho
      obtain ⟨_, rfl, hv⟩ := hv
      have e : vs.getD 0 undef = v := hv.symm
      have h0 : 0 < vs.length := by rw [h1]; simp
      have := k3.2 0 _ (vs.getD 0 undef) (by simp [adoptT, adoptL]; rfl) (by simp [List.getD_eq_getElem?_getD, h0])
      rw [e] at this
      exact this
  · rw [hsh]
    show RV w S ρ' _ (look .bot (numb 0 (adoptT ⟨[], [], []⟩ 900 ins).1) t) _ []
    rw [numb_look, if_pos (Nat.zero_le _), Nat.sub_zero]
    have hlen : (adoptT ⟨[], [], []⟩ 900 ins).1.length = vs.length := k3.1.symm
    rcases Nat.lt_or_ge t vs.length with ht | ht
    · have e : ((vs.toArray ++ Array.replicate (n - vs.length) undef).getD t undef) = vs[t] := by
        simp [Array.getD_eq_getD_getElem?, Array.getElem?_append, ht]
      rw [e]
      exact k3.2 t _ _ (by simp [List.getD_eq_getElem?_getD, show t < (adoptT ⟨[], [], []⟩ 900 ins).1.length by omega]) (List.getElem?_eq_getElem ht)
    · have : (adoptT ⟨[], [], []⟩ 900 ins).1.getD t .bot = .bot := by
        simp [List.getD_eq_getElem?_getD, show (adoptT ⟨[], [], []⟩ 900 ins).1[t]? = none from List.getElem?_eq_none (by omega)]
      rw [this]
      exact .bot _
/-- How a call ends. -/
theorem fin_post {C : Ctx} {s : St} {a : Act} {w' : World} {ts : List Nat} {res : D} {outs : Option (List D)} (hr : Rep C s a w') (hf : Fin ts res outs s) (v0 : Value) (hv0 : outs.isSome = true → C.keep (.ptr 900 1 0) v0) :
    FCPost C.w0 C.S0 v0 C.M res outs (.returned (resV ts a.tmps)) w' := by
  obtain ⟨own, fro, hnd, hdis, hdk, hm⟩ := hf
  obtain ⟨_, _, ρ, S, Φ, h3, h4⟩ := hr
  have hS' : ∀ b, Lent s ρ S Φ fro b → b < w'.heap.size ∧ (C.S0 b ∨ C.w0.heap.size ≤ b ∨ b ∈ C.M) := fun b hb => lent_lt h3 hb
  have key : ∀ {F : List Nat}, (∀ b ∈ F, ∃ o ∈ own, (s.ob o).ct.isSome = true ∧ b ∈ Φ o) → ∀ b ∈ F, ¬ Lent s ρ S Φ fro b ∧ b < w'.heap.size ∧ (C.w0.heap.size ≤ b ∨ b ∈ C.M) := fun hF b hb => by
    obtain ⟨o, ho, hl, hbo⟩ := hF b hb
    obtain ⟨c, hc⟩ := Option.isSome_iff_exists.1 hl
    have := (h3.own o c hc).2 b hbo
    exact ⟨lent_own h3 hdis ho hl hbo, this.2.1, this.2.2.1⟩
  have hres := resD_ok h4 ts
  rcases outs with _ | cs
  · have hp : PR w' S ρ s.sh [resD ts s] [resV ts a.tmps] := ⟨rfl, fun i c u p1 p2 => by
      rcases i with _ | i
      · simp at p1 p2; subst p1; subst p2; exact hres
      · simp at p1⟩
    obtain ⟨F, k1, k2, k3⟩ := hm.sound h3 (S' := Lent s ρ S Φ fro) (fun b hb => .inl hb) (lent_ok h3 fro) hnd hp.tup
    obtain ⟨vs', Fs, e', q1, q2, q3, q4⟩ := nv_tup k1
    obtain rfl := tuple_inj e'
    rcases Fs with _ | ⟨F1, _ | ⟨F2, Fs⟩⟩
    · simp at q2
    · have e1 : F = F1 := by simpa using q3
      subst e1
      exact ⟨_, F, [], Lent s ρ S Φ fro, rfl, h3.os, h3.tape, h3.output, h3.size, h3.szs, h3.fr, fun b hb => .inl (h3.s0 b hb), hS', lent_c h3 fro, q4 0 _ _ _ rfl rfl rfl, rfl, by simpa using k2, fun b hb => key k3 b (by simpa using hb)⟩
    · simp at q2
  · have hp : PR w' S ρ s.sh [resD ts s, .ptr 900 1 0] [resV ts a.tmps, v0] := ⟨rfl, fun i c u p1 p2 => by
      rcases i with _ | _ | i
      · simp at p1 p2; subst p1; subst p2; exact hres
      · simp at p1 p2; subst p1; subst p2; exact h3.rv _ _ (hv0 rfl)
      · simp at p1⟩
    obtain ⟨F, k1, k2, k3⟩ := hm.sound h3 (S' := Lent s ρ S Φ fro) (fun b hb => .inl hb) (lent_ok h3 fro) hnd hp.tup
    obtain ⟨vs', Fs, e', q1, q2, q3, q4⟩ := nv_tup k1
    obtain rfl := tuple_inj e'
    rcases Fs with _ | ⟨F1, _ | ⟨F2, _ | ⟨F3, Fs⟩⟩⟩
    · simp at q2
    · simp at q2
    · have e1 : F = F1 ++ F2 := by simpa using q3
      subst e1
      exact ⟨_, F1, F2, Lent s ρ S Φ fro, rfl, h3.os, h3.tape, h3.output, h3.size, h3.szs, h3.fr, fun b hb => .inl (h3.s0 b hb), hS', lent_c h3 fro, q4 0 _ _ _ rfl rfl rfl, q4 1 _ _ _ rfl rfl rfl, k2, key k3⟩
    · simp at q2
/-- FROM A WALK TO A CONTRACT. -/
theorem wp_of_wide {P : Program} {c : Code} {Q : Exit → Act → World → Prop} {a : Act} {w : World} {n : Nat} (h : c.wp P Q a w) : c.wpIn Fence.wide n P Q a w := wpIn_wide.2 h
/-- The marks are gone, all else is as it was. -/
theorem rep_undk {C : Ctx} {s : St} {a : Act} {w w' : World} (h : Rep C s a w) (h1 : w'.os = w.os) (h2 : w'.tape = w.tape) (h3 : w'.output = w.output) (h4 : w'.heap.size = w.heap.size) (h5 : ∀ b, b ∉ s.dk → w'.heap[b]? = w.heap[b]?) : Rep C ⟨s.sl, s.hp, []⟩ { a with defers := [] } w' := by
  obtain ⟨q1, q2, ρ, S, Φ, r, q4⟩ := h
  have hwS : ∀ b, S b → w'.heap[b]? = w.heap[b]? := fun b hb => h5 b fun hd => (r.dkn.2 b hd).2 hb
  have hm : ∀ {d v}, RV w S ρ s.sh d v [] → RV w' S ρ s.sh d v [] := fun hr => hr.mono (fun _ h => h) hwS (fun _ => ⟨Nat.le_refl _, fun _ => ⟨rfl, rfl⟩⟩) (by simp)
  refine ⟨rfl, q2, ρ, S, Φ, ⟨h1.trans r.os, h2.trans r.tape, h3.trans r.output, by rw [h4]; exact r.size, fun b cur E fz hb => ?_, fun b hb hM => (h5 b fun hd => by have := (r.dkn.2 b hd).1; omega).trans (r.fr b hb hM), r.s0, fun b hb => by rw [h4]; exact r.s1 b hb, r.sc.same hwS, fun g cs hg => hm (r.gl g cs hg),
    fun o c hc => (r.ob o c hc).mono (fun _ h => h) hwS (fun _ => ⟨Nat.le_refl _, fun _ => ⟨rfl, rfl⟩⟩) (fun b hb => h5 b ((r.own o c hc).2 b hb).2.2.2), fun d v hv => hm (r.rv d v hv), by simp, ⟨by simp, by simp⟩,
    fun o c hc => ⟨(r.own o c hc).1, fun b hb => ⟨((r.own o c hc).2 b hb).1, by rw [h4]; exact ((r.own o c hc).2 b hb).2.1, ((r.own o c hc).2 b hb).2.2.1, by simp⟩⟩, r.dis⟩, fun t => hm (q4 t)⟩
  obtain ⟨cur', E', fz', k1, k2⟩ := r.szs b cur E fz hb
  refine ⟨cur', E', fz', (h5 b fun hd => ?_).trans k1, k2⟩
  have := r.dk b hd
  rw [k1] at this
  cases this
/-- The marks that ranges over functions have left are taken away. -/
theorem leaves_marks {P : Program} {fn : Func} {n : Nat} {tmps : Array Value} {R : Ending → World → Prop} {v : Value} : ∀ (l : List Nat) (w : World), l.Nodup → (∀ r ∈ l, w.heap[r]? = some (.deferred (some []))) →
    (∀ w', w'.os = w.os → w'.tape = w.tape → w'.output = w.output → w'.heap.size = w.heap.size → (∀ b, b ∉ l → w'.heap[b]? = w.heap[b]?) → (results fn tmps).run P w' = .ok v w' ∧ R (.returned v) w') → LeavesInM Fence.wide n P fn tmps R (dfl l) .returning w
  | [], w, _, _, h => by
    obtain ⟨h1, h2⟩ := h w rfl rfl rfl rfl (fun _ _ => rfl)
    exact ⟨v, h1, h2⟩
  | r :: l, w, hn, hd, h => by
    have hr := hd r (by simp)
    refine ⟨by simp, .inl ⟨r, _, rfl, run_takeDeferred hr, ?_⟩⟩
    rw [List.nodup_cons] at hn
    refine leaves_marks (v := v) l _ hn.2 (fun x hx => ?_) (fun w' h1 h2 h3 h4 h5 => ?_)
    · rw [World.putObj_heap_other (by rintro rfl; exact hn.1 hx)]
      exact hd x (by simp [hx])
    · refine h w' h1 h2 h3 (h4.trans (by simp)) (fun b hb => ?_)
      simp only [List.mem_cons, not_or] at hb
      rw [h5 b hb.2, World.putObj_heap_other (by first | exact hb.1 | exact fun e => hb.1 e.symm)]
/-- FROM A WALK TO A CONTRACT. -/
theorem fc_of {P : Program} {Ti : Nat → TI} {G : Nat → Option D} {f : Nat} {fn : Func} {c : Code} {ins : List D} {res : D} {outs : Option (List D)} {ts : List Nat} (hti : tiOf P = Ti) (gp : ∀ g cs, G g = some cs → cs.pf0 = true)
    (hf : P.funcs[f]? = some fn) (hb : fn.body = some c) (hrs : fn.results = (ts.map ResultVar.tmp).toArray) (hl : ts.length ≤ 5) (hn : ins.length ≤ fn.ntmps) (had : D.adL ins = true) (ho : OutOk ins outs)
    (h : ∀ C, CxOk P Ti G fn.ntmps outs C → VC C c (inSt ins) (RetQ ts res outs)) : FC P G f ins res outs := by
  intro w S vs Fs hS hG h1 h2 h3 h4 h5
  refine (callsIn_wide (n := 3)).1 (callsIn_of_wp_marks hf hb trivial ?_)
  have hrep := in_rep (P := P) (n := fn.ntmps) (outs := outs) gp had hn ho hS hG h1 h2 h3 h4 h5
  have hw := h _ ⟨⟨hti, rfl, rfl⟩, rfl, fun e d v h => (by subst e; have h' : (none : Option (List D)).isSome = true ∧ _ := h; cases h'.1), fun d v h => (show _ ∧ d = .ptr 900 1 0 ∧ _ from h).2.1, rfl⟩ 3 _ _ hrep
  have e : vs.toArray.size = vs.length := by simp
  rw [e]
  refine wpIn_mono hw ?_
  rintro e a' w' ⟨s', k1, k2, k3⟩
  have hk : Fin ts res outs ⟨s'.sl, s'.hp, []⟩ := by
    obtain ⟨own, fro, g1, g2, _, g4⟩ := k3
    refine ⟨own, fro, g1, g2, rfl, ?_⟩
    rcases outs with _ | cs
    · exact g4.loc (σ := ⟨s'.sl, s'.hp, []⟩) (fun _ _ => rfl)
    · exact g4.loc (σ := ⟨s'.sl, s'.hp, []⟩) (fun _ _ => rfl)
  have key : LeavesInM Fence.wide 3 P fn a'.tmps (FCPost w S (vs.getD 0 undef) Fs.flatten res outs) a'.defers .returning w' := by
    obtain ⟨_, _, ρ, S', Φ, r, _⟩ := id k1
    rw [k1.1]
    refine leaves_marks (v := resV ts a'.tmps) s'.dk w' r.dkn.1 r.dk (fun w'' e1 e2 e3 e4 e5 => ⟨run_results hrs hl _ _ _, ?_⟩)
    exact fin_post (rep_undk k1 e1 e2 e3 e4 e5) hk (vs.getD 0 undef) (fun hs => ⟨hs, rfl, rfl⟩)
  rcases k2 with rfl | rfl
  · exact key
  · exact key
end Go.Proofs.YtabkpoklihkifaaDoor

/- A region that draws its order: where what conflicts is bound, each order leaves what the text's order leaves. Over any program. -/
namespace Go.Proofs.YtabkpoklihkifaaDoor
open Go Go.RowKit
set_option linter.unusedVariables false
set_option linter.unusedSimpArgs false

structure Rec where
  o : Oper
  d : D
  obs : List (Nat × Ob)
  R : List Nat
def stepR (s : St) (r : Rec) : St := (s.lays r.obs).puto r.o.dst r.d
def Rec.nm (r : Rec) : List Nat := r.obs.map (·.1)
/-- The state behind those operations of the first k that are in L, in the text's order. -/
def sL (rs : List Rec) (s0 : St) (L : Nat → Bool) : Nat → St
  | 0 => s0
  | k + 1 => match rs[k]? with
    | some r => if L k then stepR (sL rs s0 L k) r else sL rs s0 L k
    | none => sL rs s0 L k
inductive Trc (C : Ctx) (ops : Array Oper) (s0 : St) : List (List Nat × List Nat) → List Oper → St → Prop
  | nil : Trc C ops s0 [] ops.toList s0
  | cons (acc : List (List Nat × List Nat)) (o : Oper) (rest : List Oper) (s : St) (d : D) (obs : List (Nat × Ob)) (R : List Nat) (h : Trc C ops s0 acc (o :: rest) s) (he : EffG C ops o s d obs R) :
      Trc C ops s0 ((obs.map (·.1), R) :: acc) rest ((s.lays obs).puto o.dst d)

section
variable {C : Ctx} {ops : Array Oper} {s0 s : St} {rs : List Rec} {L L' : Nat → Bool}
theorem slot_step (s : St) (r : Rec) (t : Nat) : (stepR s r).slot t = if r.o.dst = some t then r.d else s.slot t := by
  unfold stepR
  rcases h : r.o.dst with _ | x
  · show (s.lays r.obs).slot t = _
    rw [lays_slot]; simp
  · show ((s.lays r.obs).put x r.d).slot t = _
    rw [St.slot_put, lays_slot]
    by_cases hx : t = x
    · subst hx; simp
    · rw [if_neg hx, if_neg (fun e => hx (by injection e with e; exact e.symm))]
theorem puto_ob (s : St) (dst : Option Nat) (d : D) (x : Nat) : (s.puto dst d).ob x = s.ob x := by cases dst <;> rfl
theorem puto_dk (s : St) (dst : Option Nat) (d : D) : (s.puto dst d).dk = s.dk := by cases dst <;> rfl
theorem ob_step (s : St) (r : Rec) (x : Nat) (h : x ∉ r.nm) : (stepR s r).ob x = s.ob x := by
  unfold stepR
  rw [puto_ob]
  exact lays_ob s _ x (fun p hp e => h (List.mem_map.2 ⟨p, hp, e⟩))
theorem lays_in (obs : List (Nat × Ob)) (x : Nat) (h : x ∈ obs.map (·.1)) : ∀ s s' : St, (s.lays obs).ob x = (s'.lays obs).ob x := by
  induction obs with
  | nil => cases h
  | cons p r ih =>
    obtain ⟨o, b⟩ := p
    intro s s'
    show ((s.lay o b).lays r).ob x = ((s'.lay o b).lays r).ob x
    by_cases hr : x ∈ r.map (·.1)
    · exact ih hr _ _
    · have e : x = o := by simpa [hr] using h
      subst e
      have hn : ∀ p ∈ r, p.1 ≠ x := fun p hp e => hr (List.mem_map.2 ⟨p, hp, e⟩)
      rw [lays_ob _ _ _ hn, lays_ob _ _ _ hn, St.ob_lay, St.ob_lay, if_pos rfl, if_pos rfl]
theorem ob_in (s s' : St) (r : Rec) (x : Nat) (h : x ∈ r.nm) : (stepR s r).ob x = (stepR s' r).ob x := by
  unfold stepR
  rw [puto_ob, puto_ob]
  exact lays_in _ _ h _ _
theorem dk_step (s : St) (r : Rec) : (stepR s r).dk = s.dk := by unfold stepR; rw [puto_dk, lays_dk]
theorem sL_slot (t : Nat) : ∀ k, (∀ i r, i < k → rs[i]? = some r → r.o.dst = some t → L i = L' i) → (sL rs s0 L k).slot t = (sL rs s0 L' k).slot t
  | 0, _ => rfl
  | k + 1, h => by
    have ih := sL_slot t k (fun i r hi => h i r (by omega))
    simp only [sL]
    split
    · rename_i r hr
      by_cases hd : r.o.dst = some t
      · have e := h k r (by omega) hr hd
        rw [e]
        split
        · rw [slot_step, slot_step, if_pos hd, if_pos hd]
        · exact ih
      · split <;> split
        · rw [slot_step, slot_step, if_neg hd, if_neg hd]; exact ih
        · rw [slot_step, if_neg hd]; exact ih
        · rw [slot_step, if_neg hd]; exact ih
        · exact ih
    · exact ih
theorem sL_ob (x : Nat) : ∀ k, (∀ i r, i < k → rs[i]? = some r → x ∈ r.nm → L i = L' i) → (sL rs s0 L k).ob x = (sL rs s0 L' k).ob x
  | 0, _ => rfl
  | k + 1, h => by
    have ih := sL_ob x k (fun i r hi => h i r (by omega))
    simp only [sL]
    split
    · rename_i r hr
      by_cases hd : x ∈ r.nm
      · have e := h k r (by omega) hr hd
        rw [e]
        split
        · exact ob_in _ _ _ _ hd
        · exact ih
      · split <;> split
        · rw [ob_step _ _ _ hd, ob_step _ _ _ hd]; exact ih
        · rw [ob_step _ _ _ hd]; exact ih
        · rw [ob_step _ _ _ hd]; exact ih
        · exact ih
    · exact ih
theorem sL_dk : ∀ k, (sL rs s0 L k).dk = s0.dk
  | 0 => rfl
  | k + 1 => by
    simp only [sL]
    split
    · split
      · rw [dk_step]; exact sL_dk k
      · exact sL_dk k
    · exact sL_dk k
/-- Beyond j nothing is in L. -/
theorem sL_stop (j : Nat) (h : ∀ i, j ≤ i → L i = false) : ∀ k, sL rs s0 L (j + k) = sL rs s0 L j
  | 0 => rfl
  | k + 1 => by
    rw [← Nat.add_assoc]
    simp only [sL]
    rw [h (j + k) (by omega)]
    split <;> exact sL_stop j h k
theorem sL_same : ∀ k, (∀ i, i < k → L i = L' i) → sL rs s0 L k = sL rs s0 L' k
  | 0, _ => rfl
  | k + 1, h => by
    simp only [sL]
    rw [sL_same k (fun i hi => h i (by omega)), h k (by omega)]
/-- More operations behind do no harm. -/
theorem sL_app (rs' : List Rec) : ∀ k, k ≤ rs.length → sL (rs ++ rs') s0 L k = sL rs s0 L k
  | 0, _ => rfl
  | k + 1, h => by
    simp only [sL]
    rw [List.getElem?_append_left (by omega), sL_app rs' k (by omega)]
def all1 : Nat → Bool := fun _ => true
theorem trc_recs {acc : List (List Nat × List Nat)} {rest : List Oper} {s : St} (h : Trc C ops s0 acc rest s) :
    ∃ rs : List Rec, rs.map (·.o) ++ rest = ops.toList ∧ acc = (rs.map fun r => (r.nm, r.R)).reverse ∧ s = sL rs s0 all1 rs.length ∧ ∀ i r, rs[i]? = some r → EffG C ops r.o (sL rs s0 all1 i) r.d r.obs r.R := by
  induction h with
  | nil => exact ⟨[], rfl, rfl, rfl, fun i r h => by simp at h⟩
  | cons acc o rest s d obs R h he ih =>
    obtain ⟨rs, h1, h2, h3, h4⟩ := ih
    refine ⟨rs ++ [⟨o, d, obs, R⟩], by rw [← h1]; simp, by rw [h2]; simp [Rec.nm], ?_, fun i r hr => ?_⟩
    · rw [List.length_append]
      show _ = sL _ _ _ (rs.length + 1)
      simp only [sL]
      rw [sL_app _ _ (Nat.le_refl _), ← h3]
      simp [all1, stepR]
    · rcases Nat.lt_trichotomy i rs.length with hi | hi | hi
      · rw [List.getElem?_append_left hi] at hr
        rw [sL_app _ _ (by omega)]
        exact h4 i r hr
      · subst hi
        rw [List.getElem?_append_right (Nat.le_refl _)] at hr
        simp at hr
        subst hr
        rw [sL_app _ _ (Nat.le_refl _), ← h3]
        exact he
      · rw [List.getElem?_eq_none (by simp; omega)] at hr
        cases hr
theorem Rep.ext {C : Ctx} {s s' : St} {a : Act} {w : World} (h : Rep C s a w) (h1 : ∀ t, s'.slot t = s.slot t) (h2 : ∀ o, s'.ob o = s.ob o) (h3 : s'.dk = s.dk) : Rep C s' a w := by
  obtain ⟨k1, k2, ρ, S, Φ, k3, k4⟩ := h
  have es : s'.sh = s.sh := by funext o; unfold St.sh; rw [h2]
  exact ⟨by rw [h3]; exact k1, k2, ρ, S, Φ, k3.congr h2 h3, fun t => by rw [h1, es]; exact k4 t⟩
end

/-! The check. -/
structure Fp where
  dst : Option Nat
  T : List Nat
  W : List Nat
  R : List Nat
def clash (x y : Fp) : Bool :=
  (match x.dst with | some d => y.T.contains d || y.dst == some d | none => false) || (match y.dst with | some d => x.T.contains d | none => false) ||
    x.W.any (fun o => y.R.contains o || y.W.contains o) || y.W.any (fun o => x.R.contains o)
def ancB (A : List Nat) (es : List Edge) : Nat := es.foldl (fun m e => if Region.binds .any e then m ||| (1 <<< e.on) ||| A.getD e.on 0 else m) 0
def ancL : List Oper → List Nat → List Nat
  | [], A => A
  | o :: r, A => ancL r (A ++ [ancB A o.after.toList])
def fpOf (ops : Array Oper) (o : Oper) (p : List Nat × List Nat) : Fp := ⟨o.dst, tOf ops o, p.1, p.2⟩
def fps (ops : Array Oper) : List Oper → List (List Nat × List Nat) → List Fp
  | o :: os, p :: ps => fpOf ops o p :: fps ops os ps
  | _, _ => []
/-- Every pair of the list: whichever conflict is bound. -/
def chkRow (m : Nat) (y : Fp) : Nat → List Fp → Bool
  | _, [] => true
  | i, x :: r => (!clash x y || Nat.testBit m i) && chkRow m y (i + 1) r
def chkAll (A : List Nat) : List Fp → List Oper → List Fp → Nat → Bool
  | done, o :: os, y :: ys, j => (o.after.toList.all fun e => !Region.binds .any e || Nat.blt e.on j) && Nat.beq (A.getD j 0) (ancB A o.after.toList) && chkRow (A.getD j 0) y 0 done && chkAll A (done ++ [y]) os ys (j + 1)
  | _, [], [], _ => true
  | _, _, _, _ => false
def chk (ops : Array Oper) (acc : List (List Nat × List Nat)) : Bool := chkAll (ancL ops.toList []) [] ops.toList (fps ops ops.toList acc.reverse) 0

structure Good (ops : Array Oper) (F : List Fp) : Prop where
  len : F.length = ops.size
  edge : ∀ j o, ops[j]? = some o → ∀ e ∈ o.after.toList, Region.binds .any e = true → e.on < j
  ord : ∀ i j x y o, i < j → F[i]? = some x → F[j]? = some y → ops[j]? = some o → clash x y = true → ∀ L : Nat → Bool, (∀ k o, L k = true → ops[k]? = some o → ∀ e ∈ o.after.toList, Region.binds .any e = true → L e.on = true) → (∀ e ∈ o.after.toList, Region.binds .any e = true → L e.on = true) → L i = true

theorem chkRow_ok {m : Nat} {y : Fp} : ∀ {l : List Fp} {i : Nat}, chkRow m y i l = true → ∀ k x, l[k]? = some x → clash x y = true → Nat.testBit m (i + k) = true
  | [], i, _, k, x, hx, _ => by simp at hx
  | z :: r, i, h, 0, x, hx, hc => by
    simp only [List.getElem?_cons_zero, Option.some.injEq] at hx
    subst hx
    simp only [chkRow, Bool.and_eq_true, Bool.or_eq_true, hc, Bool.not_true, Bool.false_eq_true, false_or] at h
    exact h.1
  | z :: r, i, h, k + 1, x, hx, hc => by
    simp only [chkRow, Bool.and_eq_true] at h
    have := chkRow_ok h.2 k x (by simpa using hx) hc
    rw [show i + 1 + k = i + (k + 1) by omega] at this
    exact this
theorem chkAll_ok {A : List Nat} : ∀ {os : List Oper} {done ys : List Fp} {j : Nat}, chkAll A done os ys j = true → done.length = j → os.length = ys.length ∧
    ∀ k o y, os[k]? = some o → ys[k]? = some y → (∀ e ∈ o.after.toList, Region.binds .any e = true → e.on < j + k) ∧ A.getD (j + k) 0 = ancB A o.after.toList ∧ ∀ i x, i < j + k → (done ++ ys)[i]? = some x → clash x y = true → Nat.testBit (A.getD (j + k) 0) i = true
  | [], done, [], j, _, _ => ⟨rfl, fun k o y h => by simp at h⟩
  | [], done, y :: ys, j, h, _ => by simp [chkAll] at h
  | o :: os, done, [], j, h, _ => by simp [chkAll] at h
  | o :: os, done, y :: ys, j, h, hd => by
    simp only [chkAll, Bool.and_eq_true] at h
    obtain ⟨⟨⟨h1, h2⟩, h3⟩, h4⟩ := h
    obtain ⟨k1, k2⟩ := chkAll_ok h4 (by simp [hd])
    refine ⟨by simp [k1], fun k o' y' ho hy => ?_⟩
    rcases k with _ | k
    · simp only [List.getElem?_cons_zero, Option.some.injEq] at ho hy
      subst ho; subst hy
      refine ⟨fun e he hb => ?_, Nat.eq_of_beq_eq_true h2, fun i x hi hx hc => ?_⟩
      · have := List.all_eq_true.1 h1 e he
        simpa [hb, Nat.blt_eq] using this
      · rw [List.getElem?_append_left (by omega)] at hx
        have := chkRow_ok h3 i x hx hc
        simpa using this
    · have := k2 k o' y' (by simpa using ho) (by simpa using hy)
      rw [show j + 1 + k = j + (k + 1) by omega, List.append_assoc] at this
      exact this
theorem ancB_ok {A : List Nat} (es : List Edge) (x : Nat) (h : Nat.testBit (ancB A es) x = true) : ∃ e ∈ es, Region.binds .any e = true ∧ (x = e.on ∨ Nat.testBit (A.getD e.on 0) x = true) := by
  have key : ∀ (es : List Edge) (m : Nat), Nat.testBit (es.foldl (fun m e => if Region.binds .any e then m ||| (1 <<< e.on) ||| A.getD e.on 0 else m) m) x = true → Nat.testBit m x = true ∨ ∃ e ∈ es, Region.binds .any e = true ∧ (x = e.on ∨ Nat.testBit (A.getD e.on 0) x = true) := by
    intro es
    induction es with
    | nil => intro m h; exact .inl h
    | cons e r ih =>
      intro m h
      rcases ih _ h with h1 | ⟨e', h1, h2⟩
      · dsimp only at h1
        split at h1
        · rename_i hb
          rw [Nat.testBit_or, Nat.testBit_or] at h1
          simp only [Bool.or_eq_true] at h1
          rcases h1 with (h1 | h1) | h1
          · exact .inl h1
          · refine .inr ⟨e, by simp, hb, .inl ?_⟩
            rw [Nat.one_shiftLeft, Nat.testBit_two_pow] at h1
            exact (of_decide_eq_true h1).symm
          · exact .inr ⟨e, by simp, hb, .inr h1⟩
        · exact .inl h1
      · exact .inr ⟨e', by simp [h1], h2⟩
  rcases key es 0 h with h1 | h1
  · simp at h1
  · exact h1
theorem fps_get (ops : Array Oper) : ∀ (os : List Oper) (ps : List (List Nat × List Nat)) (i : Nat) (o : Oper) (p : List Nat × List Nat), os[i]? = some o → ps[i]? = some p → (fps ops os ps)[i]? = some (fpOf ops o p)
  | [], _, i, o, p, h, _ => by simp at h
  | _ :: _, [], i, o, p, _, h => by simp at h
  | o' :: os, p' :: ps, 0, o, p, h1, h2 => by
    simp at h1 h2; subst h1; subst h2; rfl
  | o' :: os, p' :: ps, i + 1, o, p, h1, h2 => by
    simp only [fps, List.getElem?_cons_succ]
    exact fps_get ops os ps i o p (by simpa using h1) (by simpa using h2)
theorem chk_good {ops : Array Oper} {acc : List (List Nat × List Nat)} (h : chk ops acc = true) : Good ops (fps ops ops.toList acc.reverse) := by
  obtain ⟨h1, h2⟩ := chkAll_ok h rfl
  have hget : ∀ j o, ops[j]? = some o → ops.toList[j]? = some o := fun j o ho => by rw [Array.getElem?_toList]; exact ho
  have hy : ∀ j o, ops[j]? = some o → ∃ y, (fps ops ops.toList acc.reverse)[j]? = some y := fun j o ho => by
    have : j < ops.toList.length := (List.getElem?_eq_some_iff.1 (hget j o ho)).1
    exact ⟨_, List.getElem?_eq_getElem (by omega)⟩
  refine ⟨by rw [← h1]; simp, fun j o ho e he hb => ?_, fun i j x y o hij hx hyj ho hc L hL hLj => ?_⟩
  · obtain ⟨y, hyj⟩ := hy j o ho
    have := (h2 j o y (hget j o ho) hyj).1 e he hb
    omega
  · have hbit := (h2 j o y (hget j o ho) hyj).2.2 i x (by omega) (by simpa using hx) hc
    rw [Nat.zero_add] at hbit
    have key : ∀ j o, ops[j]? = some o → Nat.testBit ((ancL ops.toList []).getD j 0) i = true → (∀ e ∈ o.after.toList, Region.binds .any e = true → L e.on = true) → L i = true := by
      intro j
      induction j using Nat.strongRecOn with
      | _ j ih =>
        intro o ho hbit hLj
        obtain ⟨y, hyj⟩ := hy j o ho
        obtain ⟨q1, q2, _⟩ := h2 j o y (hget j o ho) hyj
        rw [Nat.zero_add] at q1 q2
        rw [q2] at hbit
        obtain ⟨e, he, hb, hx⟩ := ancB_ok _ _ hbit
        rcases hx with rfl | hx
        · exact hLj e he hb
        · have hlt := q1 e he hb
          have hj : j < ops.size := (Array.getElem?_eq_some_iff.1 ho).1
          obtain ⟨o', ho'⟩ : ∃ o', ops[e.on]? = some o' := ⟨_, Array.getElem?_eq_getElem (by omega)⟩
          exact ih e.on hlt o' ho' hx (fun e' he' hb' => hL e.on o' (hLj e he hb) ho' e' he' hb')
    exact key j o ho hbit hLj

section
variable {C : Ctx} {ops : Array Oper} {s0 s : St} {Q : Exit → St → Prop}
def Ls (n : Nat) (listed : Array Bool) : Nat → Bool := fun i => decide (i < n) && listed.getD i true
theorem clash_sym_dst {x y : Fp} {d : Nat} (hx : x.dst = some d) (h : d ∈ y.T ∨ y.dst = some d) : clash x y = true := by
  simp only [clash, hx, Bool.or_eq_true, List.contains_eq_mem, decide_eq_true_eq, beq_iff_eq]
  exact .inl (.inl (.inl h))
theorem clash_t {x y : Fp} {d : Nat} (hy : y.dst = some d) (h : d ∈ x.T) : clash x y = true := by
  simp only [clash, hy, Bool.or_eq_true, List.contains_eq_mem, decide_eq_true_eq]
  exact .inl (.inl (.inr h))
theorem clash_w {x y : Fp} {o : Nat} (hx : o ∈ x.W) (h : o ∈ y.R ∨ o ∈ y.W) : clash x y = true := by
  simp only [clash, Bool.or_eq_true, List.any_eq_true, List.contains_eq_mem, decide_eq_true_eq]
  exact .inl (.inr ⟨o, hx, h⟩)
theorem clash_r {x y : Fp} {o : Nat} (hy : o ∈ y.W) (h : o ∈ x.R) : clash x y = true := by
  simp only [clash, Bool.or_eq_true, List.any_eq_true, List.contains_eq_mem, decide_eq_true_eq]
  exact .inr ⟨o, hy, h⟩
/-- All orders, over an abstract step. -/
def wpAnyX (ops : Array Oper) (step : Nat → (Act → World → Prop) → Act → World → Prop) (N : Act → World → Prop) : Nat → Array Bool → Act → World → Prop
  | 0, listed, a, w => Region.ready .any ops listed = [] ∧ N a w
  | fuel + 1, listed, a, w => (Region.ready .any ops listed = [] → N a w) ∧ ∀ i ∈ Region.ready .any ops listed, step i (wpAnyX ops step N fuel (listed.setIfInBounds i true)) a w
theorem any_ok {step : Nat → (Act → World → Prop) → Act → World → Prop} {Qc : Exit → Act → World → Prop} {acc : List (List Nat × List Nat)} {sN : St} (htr : Trc C ops s0 acc [] sN) (hchk : chk ops acc = true)
    (hstep : ∀ i o K a w, ops[i]? = some o → (if Region.wanted o (yielded ops a.tmps) then o.wp C.P a w K Qc else K (a.put o.dst undef) w) → step i K a w) {N : Act → World → Prop} (hN : ∀ a w, Rep C sN a w → N a w) {a : Act} {w : World} (hr : Rep C s0 a w) :
    wpAnyX ops step N ops.size (Array.replicate ops.size false) a w := by
  obtain ⟨rs, h1, h2, h3, h4⟩ := trc_recs htr
  rw [List.append_nil] at h1
  have good := chk_good hchk
  have hn : rs.length = ops.size := by rw [← Array.length_toList, ← h1]; simp
  have hops : ∀ (i : Nat) (r : Rec), rs[i]? = some r → ops[i]? = some r.o := fun i r hi => by
    rw [← Array.getElem?_toList, ← h1, List.getElem?_map, hi]; rfl
  have hF : ∀ (i : Nat) (r : Rec), rs[i]? = some r → (fps ops ops.toList acc.reverse)[i]? = some ⟨r.o.dst, tOf ops r.o, r.nm, r.R⟩ := fun i r hi => by
    refine fps_get ops _ _ i r.o (r.nm, r.R) (by rw [Array.getElem?_toList]; exact hops i r hi) ?_
    rw [h2, List.reverse_reverse, List.getElem?_map, hi]; rfl
  have go : ∀ (fuel : Nat) (listed : Array Bool) (a : Act) (w : World), listed.size = ops.size → ((List.range ops.size).filter fun i => !(Ls ops.size listed i)).length ≤ fuel →
      (∀ k o, Ls ops.size listed k = true → ops[k]? = some o → ∀ e ∈ o.after.toList, Region.binds .any e = true → Ls ops.size listed e.on = true) →
      Rep C (sL rs s0 (Ls ops.size listed) ops.size) a w → wpAnyX ops step N fuel listed a w := by
    have fin : ∀ (listed : Array Bool) (a : Act) (w : World), Region.ready .any ops listed = [] → Rep C (sL rs s0 (Ls ops.size listed) ops.size) a w → N a w := by
      intro listed a w hre hrep
      have hall : ∀ j, j < ops.size → listed.getD j true = true := by
        intro j
        induction j using Nat.strongRecOn with
        | _ j ih =>
          intro hj
          rcases hlj : listed.getD j true with _ | _
          · exfalso
            have : j ∈ Region.ready .any ops listed := mem_ready.2 ⟨hlj, ops[j], Array.getElem?_eq_getElem hj, fun e he hb => by
              have hlt := good.edge j _ (Array.getElem?_eq_getElem hj) e (by simpa using he) hb
              have := ih e.on hlt (by omega)
              rw [Array.getD_eq_getD_getElem?] at this ⊢
              rcases hx : listed[e.on]? with _ | b
              · exfalso
                have hsz : listed.size ≤ e.on := by simpa using hx
                rw [Array.getD_eq_getD_getElem?, Array.getElem?_eq_none (by omega)] at hlj
                cases hlj
              · rw [hx] at this; exact this⟩
            rw [hre] at this
            cases this
          · rfl
      have e : sL rs s0 (Ls ops.size listed) ops.size = sL rs s0 all1 ops.size := sL_same _ fun i hi => by simp [Ls, all1, hi, hall i hi]
      rw [e, ← hn, ← h3] at hrep
      exact hN a w hrep
    intro fuel
    induction fuel with
    | zero =>
      intro listed a w hsz hcnt hcl hrep
      have hre : Region.ready .any ops listed = [] := by
        rw [List.eq_nil_iff_forall_not_mem]
        intro j hj
        obtain ⟨hlj, o, ho, _⟩ := mem_ready.1 hj
        have hj' : j < ops.size := (Array.getElem?_eq_some_iff.1 ho).1
        have hmem : j ∈ (List.range ops.size).filter fun i => !(Ls ops.size listed i) := by
          have h5 : Ls ops.size listed j = false := by unfold Ls; rw [hlj]; simp
          simp [hj', h5]
        have := List.length_pos_of_mem hmem
        omega
      exact ⟨hre, fin listed a w hre hrep⟩
    | succ fuel ih =>
      intro listed a w hsz hcnt hcl hrep
      refine ⟨fun hre => fin listed a w hre hrep, fun j hj => ?_⟩
      obtain ⟨hlj, o, ho, hedge⟩ := mem_ready.1 hj
      have hj' : j < ops.size := (Array.getElem?_eq_some_iff.1 ho).1
      obtain ⟨r, hr⟩ : ∃ r, rs[j]? = some r := ⟨_, List.getElem?_eq_getElem (by omega)⟩
      have hro : r.o = o := by have := hops j r hr; rw [ho] at this; injection this with this; exact this.symm
      have hLj : Ls ops.size listed j = false := by unfold Ls; rw [hlj]; simp
      have hLe : ∀ e ∈ o.after.toList, Region.binds .any e = true → Ls ops.size listed e.on = true := fun e he hb => by
        have h5 := hedge e (by simpa using he) hb
        have h6 := good.edge j o ho e he hb
        have h7 : listed.getD e.on true = true := by
          rw [Array.getD_eq_getD_getElem?] at h5 ⊢
          rcases hx : listed[e.on]? with _ | b
          · rw [hx] at h5; cases h5
          · rw [hx] at h5; exact h5
        simp only [Ls, h7, Bool.and_true, decide_eq_true_eq]
        omega
      -- what conflicts and comes ahead is done; what comes behind is not
      have hbefore : ∀ i ri, i < j → rs[i]? = some ri → clash ⟨ri.o.dst, tOf ops ri.o, ri.nm, ri.R⟩ ⟨r.o.dst, tOf ops r.o, r.nm, r.R⟩ = true → Ls ops.size listed i = true := fun i ri hi hri hc =>
        good.ord i j _ _ o hi (hF i ri hri) (hF j r hr) ho hc _ hcl hLe
      have hbehind : ∀ i ri, j < i → rs[i]? = some ri → clash ⟨r.o.dst, tOf ops r.o, r.nm, r.R⟩ ⟨ri.o.dst, tOf ops ri.o, ri.nm, ri.R⟩ = true → Ls ops.size listed i = false := fun i ri hi hri hc => by
        rcases hLi : Ls ops.size listed i with _ | _
        · rfl
        · have := good.ord j i _ _ ri.o hi (hF j r hr) (hF i ri hri) (hops i ri hri) hc _ hcl (hcl i ri.o hLi (hops i ri hri))
          rw [hLj] at this
          cases this
      have hpre : sL rs s0 (fun i => decide (i < j)) ops.size = sL rs s0 all1 j := by
        have h5 := sL_stop (rs := rs) (s0 := s0) (L := fun i => decide (i < j)) j (fun i hi => by simp; omega) (ops.size - j)
        rw [show j + (ops.size - j) = ops.size by omega] at h5
        rw [h5]
        exact sL_same j fun i hi => by simp [all1, hi]
      have heff := h4 j r hr
      rw [hro] at heff
      refine hstep j o _ a w ho ?_
      refine heff (sL rs s0 (Ls ops.size listed) ops.size) (fun t ht => ?_) (fun x hx => ?_) _ _ a w hrep (fun a' w' hrep' => ?_)
      · rw [← hpre]
        refine sL_slot t _ fun i ri hi hri hd => ?_
        rcases Nat.lt_trichotomy i j with hij | hij | hij
        · rw [hbefore i ri hij hri (clash_sym_dst hd (.inl (by rw [hro]; exact ht)))]; simp [hij]
        · subst hij; rw [hLj]; simp
        · rw [hbehind i ri hij hri (clash_t hd (by rw [hro]; exact ht))]; simp; omega
      · rw [← hpre]
        refine sL_ob x _ fun i ri hi hri hd => ?_
        rcases Nat.lt_trichotomy i j with hij | hij | hij
        · rw [hbefore i ri hij hri (clash_w hd (.inl hx))]; simp [hij]
        · subst hij; rw [hLj]; simp
        · rw [hbehind i ri hij hri (clash_r hd hx)]; simp; omega
      · have hset : ∀ i, Ls ops.size (listed.setIfInBounds j true) i = (Ls ops.size listed i || decide (i = j)) := fun i => by
          unfold Ls
          by_cases hi : i = j
          · subst hi
            simp [Array.getD_eq_getD_getElem?, hj', hsz]
          · rw [Array.getD_eq_getD_getElem?, Array.getElem?_setIfInBounds_ne (fun e => hi e.symm), ← Array.getD_eq_getD_getElem?]
            simp [hi]
        refine ih _ a' w' (by simp [hsz]) ?_ ?_ ?_
        · have hsub : ((List.range ops.size).filter fun i => !(Ls ops.size (listed.setIfInBounds j true) i)) = ((List.range ops.size).filter fun i => !(Ls ops.size listed i)).filter fun i => !decide (i = j) := by
            rw [List.filter_filter]
            refine List.filter_congr fun i _ => ?_
            rw [hset]
            cases Ls ops.size listed i <;> simp
          rw [hsub]
          have hlt : (((List.range ops.size).filter fun i => !(Ls ops.size listed i)).filter fun i => !decide (i = j)).length < ((List.range ops.size).filter fun i => !(Ls ops.size listed i)).length := by
            rw [List.length_filter_lt_length_iff_exists]
            exact ⟨j, by simp [hj', hLj], by simp⟩
          omega
        · intro k o' hk ho' e he hb
          rw [hset] at hk ⊢
          simp only [Bool.or_eq_true, decide_eq_true_eq] at hk ⊢
          rcases hk with hk | rfl
          · exact .inl (hcl k o' hk ho' e he hb)
          · rw [ho] at ho'
            injection ho' with ho'
            subst ho'
            exact .inl (hLe e he hb)
        · have hL3 : sL rs s0 (fun i => decide (i < j + 1)) ops.size = stepR (sL rs s0 (fun i => decide (i < j + 1)) j) r := by
            have h5 := sL_stop (rs := rs) (s0 := s0) (L := fun i => decide (i < j + 1)) (j + 1) (fun i hi => by simp; omega) (ops.size - (j + 1))
            rw [show j + 1 + (ops.size - (j + 1)) = ops.size by omega] at h5
            rw [h5]
            simp only [sL, hr]
            rw [if_pos (by simp)]
          have hrep2 : Rep C (stepR (sL rs s0 (Ls ops.size listed) ops.size) r) a' w' := by
            have e : stepR (sL rs s0 (Ls ops.size listed) ops.size) r = (((sL rs s0 (Ls ops.size listed) ops.size).lays r.obs).puto o.dst r.d) := by unfold stepR; rw [hro]
            rw [e]; exact hrep'
          refine hrep2.ext (fun t => ?_) (fun x => ?_) ?_
          · by_cases hd : r.o.dst = some t
            · rw [slot_step, if_pos hd]
              have h6 : (sL rs s0 (Ls ops.size (listed.setIfInBounds j true)) ops.size).slot t = (sL rs s0 (fun i => decide (i < j + 1)) ops.size).slot t := sL_slot t _ fun i ri hi hri hdi => by
                rw [hset]
                rcases Nat.lt_trichotomy i j with hij | hij | hij
                · rw [hbefore i ri hij hri (clash_sym_dst hdi (.inr hd))]; simp; omega
                · subst hij; simp
                · rw [hbehind i ri hij hri (clash_sym_dst hd (.inr hdi))]; simp; omega
              rw [h6, hL3, slot_step, if_pos hd]
            · rw [slot_step, if_neg hd]
              refine sL_slot t _ fun i ri hi hri hdi => ?_
              rw [hset]
              have : i ≠ j := fun e => by subst e; rw [hr] at hri; injection hri with hri; subst hri; exact hd hdi
              simp [this]
          · by_cases hd : x ∈ r.nm
            · have h6 : (sL rs s0 (Ls ops.size (listed.setIfInBounds j true)) ops.size).ob x = (sL rs s0 (fun i => decide (i < j + 1)) ops.size).ob x := sL_ob x _ fun i ri hi hri hdi => by
                rw [hset]
                rcases Nat.lt_trichotomy i j with hij | hij | hij
                · rw [hbefore i ri hij hri (clash_w hdi (.inr hd))]; simp; omega
                · subst hij; simp
                · rw [hbehind i ri hij hri (clash_w hd (.inr hdi))]; simp; omega
              rw [h6, hL3]
              exact ob_in _ _ _ _ hd
            · rw [ob_step _ _ _ hd]
              refine sL_ob x _ fun i ri hi hri hdi => ?_
              rw [hset]
              have : i ≠ j := fun e => by subst e; rw [hr] at hri; injection hri with hri; subst hri; exact hd hdi
              simp [this]
          · rw [dk_step, sL_dk, sL_dk]
  have hL0 : ∀ i, i < ops.size → Ls ops.size (Array.replicate ops.size false) i = false := fun i hi => by simp [Ls, Array.getD_eq_getD_getElem?, hi]
  refine go ops.size _ a _ (by simp) (Nat.le_trans (List.length_filter_le _ _) (by simp)) (fun k o hk => ?_) ?_
  · exfalso
    have hk' := hk
    unfold Ls at hk'
    simp only [Bool.and_eq_true, decide_eq_true_eq] at hk'
    rw [hL0 k hk'.1] at hk
    cases hk
  · have e : sL rs s0 (Ls ops.size (Array.replicate ops.size false)) ops.size = sL rs s0 (fun _ => false) ops.size := sL_same _ fun i hi => hL0 i hi
    rw [e]
    have := sL_stop (rs := rs) (s0 := s0) (L := fun _ => false) 0 (fun _ _ => rfl) ops.size
    rw [Nat.zero_add] at this
    rw [this]
    exact hr
theorem rep_drew {s : St} {a : Act} {w : World} (hr : Rep C s a w) : Rep C s a { w with drawn := w.drawn + 1 } := by
  obtain ⟨q1, q2, ρ, S, Φ, q3, q4⟩ := hr
  obtain ⟨d1, d2⟩ := q3.drew
  exact ⟨q1, q2, ρ, S, Φ, d1, fun t => d2 _ _ (q4 t)⟩
theorem vc_regionD (hm : C.P.follows .mixedOrders = true) {id : Nat} (hnd : noDefer ops = true) (h : ∀ M, Stp C ops M → (∀ acc s', chk ops acc = true → Q .normal s' → M acc [] s') → M [] ops.toList s0) : VC C (.region id ops true) s0 Q := by
  refine h (fun acc rest s => Trc C ops s0 acc rest s → VC C (.region id ops true) s0 Q) ⟨?_⟩ (fun acc s' hc hq htr => ?_) .nil
  · intro acc o rest s d obs R he hk htr
    exact hk (.cons acc o rest s d obs R htr he)
  · intro m a w hr
    refine wpIn_region_any hm ?_
    have h1 := any_ok (step := wpOpIn (fen C.rnd) m C.P ops (fun e a' w' => ∃ s', Rep C s' a' w' ∧ Q e s')) (N := fun a w => ∃ s', Rep C s' a w ∧ Q .normal s') (Qc := fun e a' w' => ∃ s', Rep C s' a' w' ∧ Q e s') htr hc (fun i o K a w ho h => by
      unfold wpOpIn
      rw [ho]
      exact step_in (noDefer_of hnd (by rw [Array.mem_toList_iff]; exact Array.mem_of_getElem? ho)) h) (fun a w hr => ⟨_, hr, hq⟩) (rep_drew hr)
    have key : ∀ (fuel : Nat) (listed : Array Bool) (a : Act) (w : World), wpAnyX ops (wpOpIn (fen C.rnd) m C.P ops (fun e a' w' => ∃ s', Rep C s' a' w' ∧ Q e s')) (fun a w => ∃ s', Rep C s' a w ∧ Q .normal s') fuel listed a w → wpAnyIn (fen C.rnd) m C.P .any ops (fun e a' w' => ∃ s', Rep C s' a' w' ∧ Q e s') fuel listed a w := by
      intro fuel
      induction fuel with
      | zero => intro listed a w h; exact h
      | succ fuel ih => intro listed a w h; exact ⟨h.1, fun i hi => wpOpIn_mono (fun a w h => ih _ a w h) (h.2 i hi)⟩
    exact key _ _ _ _ h1
end
end Go.Proofs.YtabkpoklihkifaaDoor

/- Small facts that walks use. Over any program. -/
namespace Go.Proofs.YtabkpoklihkifaaDoor
open Go Go.RowKit

theorem inR_i64 (n : Int) : inR .i64 n ↔ -9223372036854775808 ≤ n ∧ n ≤ 9223372036854775807 := by
  simp [inR, IntKind.min, IntKind.max, IntKind.signed, IntKind.bits]
theorem inR_u64 (n : Int) : inR .u64 n ↔ 0 ≤ n ∧ n ≤ 18446744073709551615 := by
  simp [inR, IntKind.min, IntKind.max, IntKind.signed, IntKind.bits]
theorem wr64 (n : Int) : 0 ≤ IntKind.u64.wrap n := by
  simp only [IntKind.wrap, IntKind.signed, IntKind.bits]
  first | omega | (split <;> omega) | exact Int.emod_nonneg _ (by decide)
theorem map_u8 {l : List UInt8} {i : Nat} (h : i < l.length) : (l.map D.u8).getD i .bot = .u8 (gb l i) := by
  have := gb_of h
  simp [List.getD_eq_getElem?_getD, h] at this ⊢
  first | exact this | exact this.symm | simp [gb, List.getD_eq_getElem?_getD, h]
/-! Ends. -/
theorem fin0 {ts : List Nat} {res : D} {s : St} {own fro : List Nat} (hdk : s.dk = s.dk) (h : Mat s (resD ts s) res own fro) (hnd : own.Nodup) (hdis : ∀ o ∈ own, o ∉ fro) : Fin ts res none s := by
  refine ⟨own, fro, hnd, hdis, hdk, ?_⟩
  have := Mat.tcons (s := s) _ _ [] [] own [] fro [] h .tnil
  simpa using this
theorem fin1 {ts : List Nat} {res : D} {cs cs' : List D} {s : St} {own fro : List Nat} (hdk : s.dk = s.dk) (ho : (s.ob 900).ct = some (.cells cs)) (hg : 1 = (s.sh 900).gen) (hf : cs.all D.fr0 = true) (h0' : Nat.blt 0 cs.length = true) (e : cs = cs') (h : Mat s (resD ts s) res own fro) (hnd : (own ++ [900]).Nodup) (hdis : ∀ o ∈ own ++ [900], o ∉ fro) :
    Fin ts res (some cs') s := by
  subst e
  have h0 : 0 < cs.length := by simpa [Nat.blt_eq] using h0'
  refine ⟨own ++ [900], fro, hnd, hdis, hdk, ?_⟩
  have h1 := Mat.ptr_f (s := s) 900 1 cs ho hg hf h0
  have := Mat.tcons (s := s) _ _ _ _ own [900] fro [] h (Mat.tcons _ _ [] [] [900] [] [] [] h1 .tnil)
  simpa using this
theorem fin2 {ts : List Nat} {res : D} {cs : List D} {s : St} {own fro own' fro' : List Nat} (hdk : s.dk = s.dk) (h : Mat s (resD ts s) res own fro) (hr : Mat s (.ptr 900 1 0) (.ownp cs) own' fro') (hnd : (own ++ own').Nodup) (hdis : ∀ o ∈ own ++ own', o ∉ fro ++ fro') : Fin ts res (some cs) s := by
  refine ⟨own ++ own', fro ++ fro', hnd, hdis, hdk, ?_⟩
  have := Mat.tcons (s := s) _ _ _ _ own _ fro _ h (Mat.tcons _ _ [] [] own' [] fro' [] hr .tnil)
  simpa using this
theorem mat_eq {s : St} {d d' : D} (e : d = d') (h : d'.pf = true) : Mat s d d' [] [] := by
  subst e
  exact .plain _ h
theorem ms {s : St} {t : Nat} {d r : D} {own fro : List Nat} (e : frc (s.slot t) = some d) (h : Mat s d r own fro) : Mat s (s.slot t) r own fro := by rw [frc_ok e]; exact h
theorem mat1 {s : St} {a : Nat} {d r : D} {own fro : List Nat} (e : frc (s.slot a) = some d) (h : Mat s d r own fro) : Mat s (resD [a] s) r own fro := ms e h
theorem mat2 {s : St} {a b : Nat} {d1 d2 r1 r2 : D} {o1 f1 o2 f2 : List Nat} (e1 : frc (s.slot a) = some d1) (e2 : frc (s.slot b) = some d2) (h1 : Mat s d1 r1 o1 f1) (h2 : Mat s d2 r2 o2 f2) : Mat s (resD [a, b] s) (.tup [r1, r2]) (o1 ++ o2) (f1 ++ f2) := by
  have := Mat.tcons (s := s) _ _ _ _ o1 _ f1 _ (ms e1 h1) (Mat.tcons _ _ [] [] o2 [] f2 [] (ms e2 h2) .tnil)
  simpa [resD] using this
theorem mat3 {s : St} {a b c : Nat} {d1 d2 d3 r1 r2 r3 : D} {o1 f1 o2 f2 o3 f3 : List Nat} (e1 : frc (s.slot a) = some d1) (e2 : frc (s.slot b) = some d2) (e3 : frc (s.slot c) = some d3) (h1 : Mat s d1 r1 o1 f1) (h2 : Mat s d2 r2 o2 f2) (h3 : Mat s d3 r3 o3 f3) : Mat s (resD [a, b, c] s) (.tup [r1, r2, r3]) (o1 ++ (o2 ++ o3)) (f1 ++ (f2 ++ f3)) := by
  have := Mat.tcons (s := s) _ _ _ _ o1 _ f1 _ (ms e1 h1) (Mat.tcons _ _ _ _ o2 _ f2 _ (ms e2 h2) (Mat.tcons _ _ [] [] o3 [] f3 [] (ms e3 h3) .tnil))
  simpa [resD] using this
theorem mat_sl {s : St} {o g off len : Nat} {l l' : List UInt8} (ho : (s.ob o).ct = some (.bytes l)) (hg : g = (s.sh o).gen) (he : (s.sh o).esz = 1) (e : (l.drop off).take len = l') : Mat s (.sl o g off len) (.ownb l') [o] [] := by
  subst e
  exact .sl_b o g off len l ho hg he
theorem mc {s : St} {d d' : D} {ds ds' : List D} {o1 o2 f1 f2 : List Nat} (h : Mat s d d' o1 f1) (hs : Mat s (.tup ds) (.tup ds') o2 f2) : Mat s (.tup (d :: ds)) (.tup (d' :: ds')) (o1 ++ o2) (f1 ++ f2) := .tcons _ _ _ _ _ _ _ _ h hs
theorem mcf {s : St} {d0 d d' : D} {ds ds' : List D} {o1 o2 f1 f2 : List Nat} (e : frc d0 = some d) (h : Mat s d d' o1 f1) (hs : Mat s (.tup ds) (.tup ds') o2 f2) : Mat s (.tup (d0 :: ds)) (.tup (d' :: ds')) (o1 ++ o2) (f1 ++ f2) := by
  rw [frc_ok e]
  exact mc h hs
theorem mat_p {s : St} {o g : Nat} {cs cs' : List D} {own fro : List Nat} (ho : (s.ob o).ct = some (.cells cs)) (hg : g = (s.sh o).gen) (hsc : cs.all D.sc = true) (h0 : Nat.blt 0 cs.length = true) (h : Mat s (.tup cs) (.tup cs') own fro) : Mat s (.ptr o g 0) (.ownp cs') (o :: own) fro :=
  .ptr o g cs cs' own fro ho hg hsc (by simpa [Nat.blt_eq] using h0) h
theorem fnOk_of {P : Program} {f : Nat} {fn : Func} (h : P.funcs[f]? = some fn) (h2 : (fn.name == "runtime.NumGoroutine") = false) (h3 : fn.body.isNone = false) : fnOk P f := ⟨fn, h, h2, h3⟩
theorem cells_agg (cs : List D) : (D.agg cs).cells = cs := rfl
theorem cells_aggb (l : List UInt8) : (D.aggb l).cells = l.map D.u8 := rfl
theorem b8_lit (n : Nat) : b8 (no_index (OfNat.ofNat n : Int)) = (OfNat.ofNat n : UInt8) := by
  unfold b8
  apply UInt8.toNat_inj.1
  have : ((OfNat.ofNat n : Int) % 256).toNat = n % 256 := by
    show (((n : Int)) % 256).toNat = n % 256
    omega
  rw [this]
  show (UInt8.ofNat (n % 256)).toNat = (UInt8.ofNat n).toNat
  simp
theorem w32_lit (n : Nat) : w32 (no_index (OfNat.ofNat n : Int)) = (OfNat.ofNat n : UInt32) := by
  unfold w32
  apply UInt32.toNat_inj.1
  have : ((OfNat.ofNat n : Int) % 4294967296).toNat = n % 4294967296 := by
    show (((n : Int)) % 4294967296).toNat = n % 4294967296
    omega
  rw [this]
  show (UInt32.ofNat (n % 4294967296)).toNat = (UInt32.ofNat n).toNat
  simp
end Go.Proofs.YtabkpoklihkifaaDoor

/- A cell that owns a row becomes an object of its own, and the other way round. Over any program. -/
namespace Go.Proofs.YtabkpoklihkifaaDoor
open Go Go.RowKit
set_option linter.unusedVariables false
set_option linter.unusedSimpArgs false

section
variable {C : Ctx} {s : St} {ρ : Nat → Pl} {S : Nat → Prop} {Φ : Nat → List Nat} {w : World}
theorem flat_set {Fs : List (List Nat)} {i : Nat} {Fi : List Nat} (h : Fs[i]? = some Fi) (b : Nat) : b ∈ (Fs.set i []).flatten → b ∈ Fs.flatten := by
  intro hb
  obtain ⟨f, hf, hb⟩ := List.mem_flatten.1 hb
  rcases List.mem_or_eq_of_mem_set hf with h1 | h1
  · exact List.mem_flatten.2 ⟨f, h1, hb⟩
  · subst h1; cases hb
theorem flat_split {Fs : List (List Nat)} {i : Nat} {Fi : List Nat} (h : Fs[i]? = some Fi) (hn : Fs.flatten.Nodup) : (Fs.set i []).flatten.Nodup ∧ Fi.Nodup ∧ ∀ b ∈ Fi, b ∉ (Fs.set i []).flatten := by
  obtain ⟨hi, e⟩ := List.getElem?_eq_some_iff.1 h
  have e1 : Fs = Fs.take i ++ Fi :: Fs.drop (i + 1) := by
    rw [← e]; simp
  have e2 : Fs.set i [] = Fs.take i ++ [] :: Fs.drop (i + 1) := by rw [List.set_eq_take_append_cons_drop, if_pos hi]
  rw [e1] at hn
  rw [e2]
  simp only [List.flatten_append, List.flatten_cons, List.nil_append] at hn ⊢
  rw [List.nodup_append] at hn
  obtain ⟨n1, n2, n3⟩ := hn
  rw [List.nodup_append] at n2
  obtain ⟨n4, n5, n6⟩ := n2
  refine ⟨List.nodup_append.2 ⟨n1, n5, fun a ha b hb => n3 a ha b (List.mem_append_right _ hb)⟩, n4, fun b hb hm => ?_⟩
  rcases List.mem_append.1 hm with hm | hm
  · exact n3 b hm b (List.mem_append_left _ hb) rfl
  · exact n6 b hb b hm rfl
/-- What becomes of a value that owns a row: the reference, the size of an element, what it holds. -/
def oref : D → Nat → Nat → D
  | .ownb l, x, g => .sl x g 0 l.length
  | .owns _ n _, x, g => .sl x g 0 n
  | .ownp _, x, g => .ptr x g 0
  | d, _, _ => d
def oesz : D → Nat
  | .owns e _ _ => e
  | _ => 1
def ocont : D → Cont
  | .ownb l => .bytes l
  | .owns _ _ cs => .cells cs
  | .ownp cs => .cells cs
  | _ => .bytes []
def D.ow : D → Bool
  | .ownb _ => true
  | .owns _ _ cs => cs.all D.fr0
  | .ownp cs => cs.all D.fr0
  | _ => false
theorem ow_fr1 {d : D} (h : d.ow = true) : d.fr1 = true := by cases d <;> first | exact h | cases h
theorem adopt_o (h : RepW C s ρ S Φ w) (t : Nat) {d : D} (hd : d.ow = true) {v : Value} {F X : List Nat} (hx : Aside C s S Φ w (F ++ X)) (hv : NV w S d v F) :
    ∃ p, RepW C (s.lay1 t (oesz d) (ocont d)) (upd ρ t p) S (upd Φ t F) w ∧ (∀ e u, RV w S ρ s.sh e u [] → RV w S (upd ρ t p) (s.lay1 t (oesz d) (ocont d)).sh e u []) ∧ RV w S (upd ρ t p) (s.lay1 t (oesz d) (ocont d)).sh (oref d t ((s.sh t).gen + 1)) v [] := by
  cases d with
  | ownb l =>
    cases hv with
    | ownb _ A n cap F cur off hl hrow hc =>
      obtain ⟨r1, r2, r3⟩ := hrow
      rcases r3 with ⟨r3, r4, r5⟩ | ⟨b, E, fz, r5, rA, rh, rz, rfit⟩
      · subst r5
        obtain ⟨k1, k2, k3⟩ := lay_there h t 1 (.bytes l) hx ⟨0, 0, 0⟩ ⟨rfl, .inl ⟨by show l.length = 0; omega, rfl, rfl⟩⟩
        exact ⟨_, k1, k2, .sl _ _ _ _ _ rfl (by show _ ≤ ((s.lay1 t 1 (.bytes l)).sh t).gen; rw [lay1_sh]; exact Nat.le_refl _) (fun _ => ⟨A, cap, by rw [hl], by rw [hl]; exact r1, r2, by show 0 + _ ≤ ((s.lay1 t 1 (.bytes l)).sh t).clen; simp [lay1_sh, Cont.len, oesz, ocont], .inl ⟨by omega, r4⟩⟩)⟩
      · subst r5
        obtain ⟨k1, k2, k3⟩ := lay_there h t 1 (.bytes l) hx ⟨b, off, cur.size⟩ ⟨rfl, .inr ⟨cur, E, fz, [], rh, rz, rfl, by simp [Cont.len]; omega, rfl, rfl, fun i hi => hc i (by omega)⟩⟩
        subst rA
        subst hl
        exact ⟨_, k1, k2, lay_sl t 1 (.bytes l) ⟨b, off, cur.size⟩ l.length cap r1 r2 (by simp [Cont.len]) rfit⟩
  | owns e n cs =>
    cases hv with
    | owns _ _ _ A cap F F0 Fs cur off hl hrow hf hF hr =>
      obtain ⟨r1, r2, r3⟩ := hrow
      rcases r3 with ⟨r3, r4, r5⟩ | ⟨b, E, fz, r5, rA, rh, rz, rfit⟩
      · have hc0 : cs = [] := List.eq_nil_of_length_eq_zero (by rw [hl, r3, Nat.zero_mul])
        subst hc0
        have hFs : Fs = [] := List.eq_nil_of_length_eq_zero hf
        subst hFs
        subst r5
        subst hF
        obtain ⟨k1, k2, k3⟩ := lay_there h t e (.cells []) hx ⟨0, 0, 0⟩ ⟨rfl, .inl ⟨rfl, rfl, rfl⟩⟩
        exact ⟨_, k1, k2, .sl _ _ _ _ _ rfl (by show _ ≤ ((s.lay1 t e (.cells [])).sh t).gen; rw [lay1_sh]; exact Nat.le_refl _) (fun _ => ⟨A, cap, rfl, by omega, r2, by rw [r3]; simp, .inl ⟨r3, r4⟩⟩)⟩
      · subst r5
        subst hF
        obtain ⟨k1, k2, k3⟩ := lay_there h t e (.cells cs) hx ⟨b, off, cur.size⟩ ⟨rfl, .inr ⟨cur, E, fz, Fs, rh, rz, rfl, by simp only [Cont.len]; have := Nat.mul_le_mul_right e r1; omega, rfl, hf, fun i c u f p1 p2 p3 => nv_in (all_get hd p1) (hr i c u f p1 p2 p3)⟩⟩
        subst rA
        exact ⟨_, k1, k2, lay_sl t e (.cells cs) ⟨b, off, cur.size⟩ n cap r1 r2 (by simp [Cont.len, hl]) rfit⟩
  | ownp cs =>
    cases hv with
    | ownp _ b base cur E fz F Fs hh hz hs hf hF hr =>
      subst hF
      obtain ⟨k1, k2, k3⟩ := lay_there h t 1 (.cells cs) hx ⟨b, base, cur.size⟩ ⟨rfl, .inr ⟨cur, E, fz, Fs, hh, hz, rfl, hs, rfl, hf, fun i c u f p1 p2 p3 => nv_in (all_get hd p1) (hr i c u f p1 p2 p3)⟩⟩
      exact ⟨_, k1, k2, lay_ptr t 1 (.cells cs) ⟨b, base, cur.size⟩ 0⟩
  | _ => cases hd
/-- A cell that owns a row becomes an object. -/
theorem wk_open (o i x : Nat) {cs : List D} {d : D} (hd : d.ow = true) (ho : (s.ob o).ct = some (.cells cs)) (hi : cs[i]? = some d) (hx : x ≠ o) :
    Wk C s ((s.lay1 x (oesz d) (ocont d)).lay o ⟨(s.ob o).sh, some (.cells (cs.set i (oref d x ((s.sh x).gen + 1))))⟩) := by
  intro a w hr
  obtain ⟨h1, h2, ρ, S, Φ, h3, h4⟩ := hr
  have hob := h3.ob o _ ho
  obtain ⟨hlen, hcase⟩ := hob
  have hic : i < cs.length := (List.getElem?_eq_some_iff.1 hi).1
  rcases hcase with ⟨h0, _⟩ | ⟨cur, E, fz, Fs, hh, hz, hs, hbz, hF, hfl, hct⟩
  · simp only [Cont.len] at h0; omega
  have hFi : ∃ Fi, Fs[i]? = some Fi := ⟨_, List.getElem?_eq_getElem (by omega)⟩
  obtain ⟨Fi, hFi⟩ := hFi
  have hcl : (Cont.cells cs).len = cs.length := rfl
  have hui : ∃ u, cur[(ρ o).base + i]? = some u := ⟨_, Array.getElem?_eq_getElem (by omega)⟩
  obtain ⟨u, hu⟩ := hui
  have hown := h3.own o _ ho
  have hnd : Fs.flatten.Nodup ∧ (ρ o).blk ∉ Fs.flatten := by
    have := hown.1
    rw [hF] at this
    exact ⟨(List.nodup_cons.1 this).2, (List.nodup_cons.1 this).1⟩
  obtain ⟨n1, n2, n3⟩ := flat_split hFi hnd.1
  have hFin : ∀ b ∈ Fi, b ∈ Fs.flatten := fun b hb => mem_flat_of hFi hb
  have hnv : NV w S d u Fi := fr1_nv (ow_fr1 hd) (hct i _ u Fi hi hu hFi)
  -- (1) nothing is known of the cell
  obtain ⟨a1, a2⟩ := h3.one (w' := w) o ⟨s.sh o, some (.cells (cs.set i .bot))⟩ (ρ o) ((ρ o).blk :: (Fs.set i []).flatten) rfl rfl rfl (Nat.le_refl _) (Szs.refl w) (.inr ⟨rfl, rfl⟩) (fun _ _ _ => rfl) (fun c hc => by
    have e : Cont.cells (cs.set i .bot) = c := by simpa using hc
    subst e
    rw [upd_self]
    have e2 : upd s.sh o (⟨s.sh o, some (.cells (cs.set i .bot))⟩ : Ob).sh = s.sh := upd_self s.sh o
    rw [e2]
    refine ⟨by simpa [Cont.len] using hlen, .inr ⟨cur, E, fz, Fs.set i [], hh, hz, hs, by simpa [Cont.len] using hbz, rfl, by simpa using hfl, fun j c u' f p1 p2 p3 => ?_⟩⟩
    rw [List.getElem?_set] at p1 p3
    by_cases hij : i = j
    · rw [if_pos hij, if_pos (by omega)] at p1 p3
      injection p1 with p1
      injection p3 with p3
      subst p1; subst p3
      exact .bot _
    · rw [if_neg hij] at p1 p3
      exact hct j c u' f p1 p2 p3) (fun _ => ⟨List.nodup_cons.2 ⟨fun hm => hnd.2 (flat_set hFi _ hm), n1⟩, fun b hb => by
    have hb' : b ∈ Φ o := by
      rw [hF]
      rcases List.mem_cons.1 hb with rfl | hb
      · simp
      · exact List.mem_cons_of_mem _ (flat_set hFi _ hb)
    exact ⟨(hown.2 b hb').1, (hown.2 b hb').2.1, (hown.2 b hb').2.2.1, (hown.2 b hb').2.2.2, fun o' c' hne hc' => h3.dis o o' _ c' ho hc' (Ne.symm hne) b hb'⟩⟩)
  rw [upd_self] at a1 a2
  have hside : Aside C (s.lay o ⟨s.sh o, some (.cells (cs.set i .bot))⟩) S (upd Φ o ((ρ o).blk :: (Fs.set i []).flatten)) w (Fi ++ []) := by
    rw [List.append_nil]
    refine ⟨n2, fun b hb => ?_⟩
    have hb' : b ∈ Φ o := by rw [hF]; exact List.mem_cons_of_mem _ (hFin b hb)
    refine ⟨(hown.2 b hb').1, (hown.2 b hb').2.1, (hown.2 b hb').2.2.1, (hown.2 b hb').2.2.2, fun o' c' hc' => ?_⟩
    by_cases ho' : o' = o
    · subst ho'
      rw [upd_same]
      intro hm
      rcases List.mem_cons.1 hm with e | hm
      · exact hnd.2 (e ▸ hFin b hb)
      · exact n3 b hb hm
    · rw [upd_other _ _ _ ho']
      rw [St.ob_lay, if_neg ho'] at hc'
      exact h3.dis o o' _ c' ho hc' (Ne.symm ho') b hb'
  -- (2) its row becomes an object
  obtain ⟨p, b1, b2, b3⟩ := adopt_o a1 x hd hside hnv
  have hox : o ≠ x := fun e => hx e.symm
  generalize hs1 : s.lay o ⟨s.sh o, some (.cells (cs.set i .bot))⟩ = s1 at *
  have hs1x : s1.sh x = s.sh x := by rw [← hs1]; unfold St.sh; rw [St.ob_lay, if_neg hx]
  have hs1o : s1.ob o = ⟨s.sh o, some (.cells (cs.set i .bot))⟩ := by rw [← hs1, St.ob_lay, if_pos rfl]
  have hob2 : (s1.lay1 x (oesz d) (ocont d)).ob o = ⟨s.sh o, some (.cells (cs.set i .bot))⟩ := by
    unfold St.lay1; rw [St.ob_lay, if_neg hox, hs1o]
  have hsh2 : (s1.lay1 x (oesz d) (ocont d)).sh o = s.sh o := by unfold St.sh; rw [hob2]; rfl
  have hct2 : ((s1.lay1 x (oesz d) (ocont d)).ob o).ct = some (.cells (cs.set i .bot)) := by rw [hob2]
  have hown2 := b1.own o _ hct2
  have hΦo : upd (upd Φ o ((ρ o).blk :: (Fs.set i []).flatten)) x Fi o = (ρ o).blk :: (Fs.set i []).flatten := by rw [upd_other _ _ _ hox, upd_same]
  have hρo : upd ρ x p o = ρ o := upd_other _ _ _ hox
  obtain ⟨q1, q2⟩ := b1.ob o _ hct2
  rw [hρo, hΦo] at q2
  rcases q2 with ⟨z, _⟩ | ⟨cur', E', fz', Fs', k1, k2, k3, k4, k5, k6, k7⟩
  · simp [Cont.len] at z; subst z; simp at hic
  rw [hh] at k1
  injection k1 with k1
  injection k1 with e1 e2 e3
  subst e1; subst e2; subst e3
  -- (3) the cell names it
  obtain ⟨d1, d2⟩ := b1.one (w' := w) o ⟨s.sh o, some (.cells (cs.set i (oref d x ((s.sh x).gen + 1))))⟩ (ρ o) ((ρ o).blk :: (Fs.set i []).flatten) rfl rfl rfl (Nat.le_refl _) (Szs.refl w) (.inr ⟨hsh2.symm, hρo.symm⟩) (fun _ _ _ => rfl) (fun c hc => by
    have e : Cont.cells (cs.set i (oref d x ((s.sh x).gen + 1))) = c := by simpa using hc
    subst e
    have e1 : upd (upd ρ x p) o (ρ o) = upd ρ x p := by
      have := upd_self (upd ρ x p) o
      rw [hρo] at this
      exact this
    have e2 : upd (s1.lay1 x (oesz d) (ocont d)).sh o (⟨s.sh o, some (.cells (cs.set i (oref d x ((s.sh x).gen + 1))))⟩ : Ob).sh = (s1.lay1 x (oesz d) (ocont d)).sh := by
      show upd _ o (s.sh o) = _
      rw [← hsh2]; exact upd_self _ o
    rw [e1, e2]
    have hlen' : (s.sh o).clen = cs.length := hlen
    refine ⟨by simpa [Cont.len] using hlen', .inr ⟨cur, E, fz, Fs', hh, hz, hs, by simpa [Cont.len] using hbz, k5, by simpa using k6, fun j c u' f p1 p2 p3 => ?_⟩⟩
    by_cases hij : i = j
    · subst hij
      have h5 := k7 i .bot u' f (by rw [List.getElem?_set, if_pos rfl, if_pos (by omega)]) p2 p3
      rw [List.getElem?_set, if_pos rfl, if_pos (by omega)] at p1
      injection p1 with p1
      subst p1
      rw [hu] at p2
      injection p2 with p2
      subst p2
      cases h5
      rw [← hs1x]
      exact b3
    · rw [List.getElem?_set, if_neg hij] at p1
      exact k7 j c u' f (by rw [List.getElem?_set, if_neg hij]; exact p1) p2 p3) (fun _ => ⟨by rw [hΦo] at hown2; exact hown2.1, fun b hb => by
    have hb' : b ∈ upd (upd Φ o ((ρ o).blk :: (Fs.set i []).flatten)) x Fi o := by rw [hΦo]; exact hb
    exact ⟨(hown2.2 b hb').1, (hown2.2 b hb').2.1, (hown2.2 b hb').2.2.1, (hown2.2 b hb').2.2.2, fun o' c' hne hc' => b1.dis o o' _ c' hct2 hc' (Ne.symm hne) b hb'⟩⟩)
  have hr3 : Rep C ((s1.lay1 x (oesz d) (ocont d)).lay o ⟨s.sh o, some (.cells (cs.set i (oref d x ((s.sh x).gen + 1))))⟩) a w :=
    ⟨by rw [← hs1]; exact h1, h2, _, S, _, d1, fun t => by
      have := d2 _ _ (b2 _ _ (a2 _ _ (h4 t)))
      rw [← hs1] at this ⊢
      exact this⟩
  refine hr3.ext (fun t => by rw [← hs1]; rfl) (fun y => ?_) (by rw [← hs1]; rfl)
  rw [St.ob_lay, St.ob_lay]
  split
  · rfl
  · rename_i hy
    unfold St.lay1
    rw [St.ob_lay, St.ob_lay]
    split
    · unfold St.nxt; rw [hs1x]
    · rw [← hs1, St.ob_lay, if_neg hy]
theorem vc_opn {sl : List (Nat × D)} {hp : List (Nat × Ob)} {dk : List Nat} {c : Code} {Q : Exit → St → Prop} (o i x : Nat) {sh : Sh} {cs cs' : List D} {d : D} {g : Nat} (hd : d.ow = true) (ho : (⟨sl, hp, dk⟩ : St).ob o = ⟨sh, some (.cells cs)⟩) (hi : cs[i]? = some d) (hx : Nat.beq x o = false)
    (hg : ((⟨sl, hp, dk⟩ : St).ob x).sh.gen = g) (hcs : cs.set i (oref d x (g + 1)) = cs') (h : VC C c ⟨sl, (o, ⟨sh, some (.cells cs')⟩) :: (x, ⟨⟨g + 1, oesz d, (ocont d).len⟩, some (ocont d)⟩) :: hp, dk⟩ Q) : VC C c ⟨sl, hp, dk⟩ Q := by
  subst hg
  subst hcs
  have hx' : x ≠ o := fun e => by subst e; simp at hx
  have := wk_open (C := C) (s := ⟨sl, hp, dk⟩) o i x hd (by rw [ho]) hi hx'
  rw [ho] at this
  exact h.weak this
theorem vc_open {sl : List (Nat × D)} {hp : List (Nat × Ob)} {dk : List Nat} {c : Code} {Q : Exit → St → Prop} (o i x : Nat) {sh : Sh} {cs cs' : List D} {l : List UInt8} {g : Nat} (ho : (⟨sl, hp, dk⟩ : St).ob o = ⟨sh, some (.cells cs)⟩) (hi : cs[i]? = some (.ownb l)) (hx : Nat.beq x o = false)
    (hg : ((⟨sl, hp, dk⟩ : St).ob x).sh.gen = g) (hcs : cs.set i (.sl x (g + 1) 0 l.length) = cs') (h : VC C c ⟨sl, (o, ⟨sh, some (.cells cs')⟩) :: (x, ⟨⟨g + 1, 1, l.length⟩, some (.bytes l)⟩) :: hp, dk⟩ Q) : VC C c ⟨sl, hp, dk⟩ Q := vc_opn o i x (d := .ownb l) rfl ho hi hx hg hcs h
theorem vc_opens {sl : List (Nat × D)} {hp : List (Nat × Ob)} {dk : List Nat} {c : Code} {Q : Exit → St → Prop} (o i x : Nat) {sh : Sh} {cs cs' cs1 : List D} {e n : Nat} {g : Nat} (ho : (⟨sl, hp, dk⟩ : St).ob o = ⟨sh, some (.cells cs)⟩) (hi : cs[i]? = some (.owns e n cs1)) (hd : cs1.all D.fr0 = true) (hx : Nat.beq x o = false)
    (hg : ((⟨sl, hp, dk⟩ : St).ob x).sh.gen = g) (hcs : cs.set i (.sl x (g + 1) 0 n) = cs') (h : VC C c ⟨sl, (o, ⟨sh, some (.cells cs')⟩) :: (x, ⟨⟨g + 1, e, cs1.length⟩, some (.cells cs1)⟩) :: hp, dk⟩ Q) : VC C c ⟨sl, hp, dk⟩ Q := vc_opn o i x (d := .owns e n cs1) hd ho hi hx hg hcs h
theorem vc_openp {sl : List (Nat × D)} {hp : List (Nat × Ob)} {dk : List Nat} {c : Code} {Q : Exit → St → Prop} (o i x : Nat) {sh : Sh} {cs cs' cs1 : List D} {g : Nat} (ho : (⟨sl, hp, dk⟩ : St).ob o = ⟨sh, some (.cells cs)⟩) (hi : cs[i]? = some (.ownp cs1)) (hd : cs1.all D.fr0 = true) (hx : Nat.beq x o = false)
    (hg : ((⟨sl, hp, dk⟩ : St).ob x).sh.gen = g) (hcs : cs.set i (.ptr x (g + 1) 0) = cs') (h : VC C c ⟨sl, (o, ⟨sh, some (.cells cs')⟩) :: (x, ⟨⟨g + 1, 1, cs1.length⟩, some (.cells cs1)⟩) :: hp, dk⟩ Q) : VC C c ⟨sl, hp, dk⟩ Q := vc_opn o i x (d := .ownp cs1) hd ho hi hx hg hcs h
theorem flat_put {Fs : List (List Nat)} {i : Nat} (h : Fs[i]? = some []) (F : List Nat) (hn : Fs.flatten.Nodup) (hF : F.Nodup) (hd : ∀ b ∈ F, b ∉ Fs.flatten) : (Fs.set i F).flatten.Nodup ∧ ∀ b ∈ (Fs.set i F).flatten, b ∈ F ∨ b ∈ Fs.flatten := by
  obtain ⟨hi, e⟩ := List.getElem?_eq_some_iff.1 h
  have e1 : Fs = Fs.take i ++ [] :: Fs.drop (i + 1) := by
    rw [← e]; simp
  have e2 : Fs.set i F = Fs.take i ++ F :: Fs.drop (i + 1) := by rw [List.set_eq_take_append_cons_drop, if_pos hi]
  have e3 : Fs.flatten = (Fs.take i).flatten ++ (Fs.drop (i + 1)).flatten := by
    conv => lhs; rw [e1]
    simp
  rw [e3] at hn hd
  rw [e2, e3]
  simp only [List.flatten_append, List.flatten_cons]
  obtain ⟨n1, n2, n3⟩ := List.nodup_append.1 hn
  refine ⟨List.nodup_append.2 ⟨n1, List.nodup_append.2 ⟨hF, n2, fun a ha b hb e => hd a ha (List.mem_append_right _ (e ▸ hb))⟩, fun a ha b hb e => ?_⟩, fun b hb => ?_⟩
  · subst e
    rcases List.mem_append.1 hb with hb | hb
    · exact hd a hb (List.mem_append_left _ ha)
    · exact n3 a ha a hb rfl
  · simp only [List.mem_append] at hb ⊢
    rcases hb with hb | hb | hb
    · exact .inr (.inl hb)
    · exact .inl hb
    · exact .inr (.inr hb)
/-- An object of bytes goes into the cell that names it. -/
def D.isR : D → Bool
  | .sl _ _ _ _ => true
  | .ptr _ _ _ => true
  | _ => false
theorem wk_close (o i x : Nat) {cs : List D} {r d : D} {cx : Cont} (ho : (s.ob o).ct = some (.cells cs)) (hi : cs[i]? = some r) (hr0 : r.isR = true) (hxc : (s.ob x).ct = some cx) (hm : Mat s r d [x] []) (hd : d.fr1 = true) (hx : x ≠ o) :
    Wk C s ((s.lay x ⟨(s.ob x).sh, none⟩).lay o ⟨(s.ob o).sh, some (.cells (cs.set i d))⟩) := by
  intro a w hr
  obtain ⟨h1, h2, ρ, S, Φ, h3, h4⟩ := hr
  obtain ⟨hlen, hcase⟩ := h3.ob o _ ho
  have hic : i < cs.length := (List.getElem?_eq_some_iff.1 hi).1
  rcases hcase with ⟨h0, _⟩ | ⟨cur, E, fz, Fs, hh, hz, hs, hbz, hF, hfl, hct⟩
  · simp only [Cont.len] at h0; omega
  have hcl : (Cont.cells cs).len = cs.length := rfl
  obtain ⟨Fi, hFi⟩ : ∃ Fi, Fs[i]? = some Fi := ⟨_, List.getElem?_eq_getElem (by omega)⟩
  obtain ⟨u, hu⟩ : ∃ u, cur[(ρ o).base + i]? = some u := ⟨_, Array.getElem?_eq_getElem (by omega)⟩
  have hrv := hct i _ u Fi hi hu hFi
  have hFi0 : Fi = [] := by cases r <;> first | (cases hrv; rfl) | cases hr0
  subst hFi0
  obtain ⟨F, k1, k2, k3⟩ := hm.sound h3 (S' := S) (fun _ h => h) (fun o ho => by cases ho) (by simp) hrv
  have hFx : ∀ b ∈ F, b ∈ Φ x := fun b hb => by
    obtain ⟨o', ho', _, hb'⟩ := k3 b hb
    obtain rfl : o' = x := by simpa using ho'
    exact hb'
  have hown := h3.own o _ ho
  have hownx := h3.own x _ hxc
  have hnd : Fs.flatten.Nodup ∧ (ρ o).blk ∉ Fs.flatten := by
    have := hown.1
    rw [hF] at this
    exact ⟨(List.nodup_cons.1 this).2, (List.nodup_cons.1 this).1⟩
  have hdisj : ∀ b ∈ F, b ∉ Φ o := fun b hb => h3.dis x o _ _ hxc ho hx b (hFx b hb)
  obtain ⟨m1, m2⟩ := flat_put hFi F hnd.1 k2 (fun b hb hm => hdisj b hb (by rw [hF]; exact List.mem_cons_of_mem _ hm))
  -- (1) the object is given up
  obtain ⟨a1, a2⟩ := h3.one (w' := w) x ⟨s.sh x, none⟩ (ρ x) [] rfl rfl rfl (Nat.le_refl _) (Szs.refl w) (.inr ⟨rfl, rfl⟩) (fun _ _ _ => rfl) (fun c' hc' => by cases hc') (fun hh => by cases hh)
  rw [upd_self] at a1 a2
  have hox : o ≠ x := fun e => hx e.symm
  have hsh1 : (s.lay x ⟨s.sh x, none⟩).sh = s.sh := by rw [St.sh_lay]; exact upd_self s.sh x
  have hob1 : (s.lay x ⟨s.sh x, none⟩).ob o = s.ob o := by rw [St.ob_lay, if_neg hox]
  -- (2) the cell owns its row
  obtain ⟨d1, d2⟩ := a1.one (w' := w) o ⟨s.sh o, some (.cells (cs.set i d))⟩ (ρ o) ((ρ o).blk :: (Fs.set i F).flatten) rfl rfl rfl (Nat.le_refl _) (Szs.refl w) (.inr ⟨by rw [hsh1], rfl⟩) (fun _ _ _ => rfl) (fun c hc => by
    have e : Cont.cells (cs.set i d) = c := by simpa using hc
    subst e
    rw [upd_self, hsh1]
    have e2 : upd s.sh o (⟨s.sh o, some (.cells (cs.set i d))⟩ : Ob).sh = s.sh := upd_self s.sh o
    rw [e2]
    refine ⟨by simpa [Cont.len] using hlen, .inr ⟨cur, E, fz, Fs.set i F, hh, hz, hs, by simpa [Cont.len] using hbz, rfl, by simpa using hfl, fun j c u' f p1 p2 p3 => ?_⟩⟩
    rw [List.getElem?_set] at p1 p3
    by_cases hij : i = j
    · rw [if_pos hij, if_pos (by omega)] at p1 p3
      injection p1 with p1
      injection p3 with p3
      subst p1; subst p3; subst hij
      rw [hu] at p2
      injection p2 with p2
      subst p2
      exact fr1_nv hd k1
    · rw [if_neg hij] at p1 p3
      exact hct j c u' f p1 p2 p3) (fun _ => ⟨List.nodup_cons.2 ⟨fun hm => by
      rcases m2 _ hm with hm | hm
      · exact hdisj _ hm (by rw [hF]; simp)
      · exact hnd.2 hm, m1⟩, fun b hb => by
    have hb' : b ∈ F ∨ b ∈ Φ o := by
      rw [hF]
      rcases List.mem_cons.1 hb with rfl | hb
      · simp
      · rcases m2 _ hb with hb | hb
        · exact .inl hb
        · exact .inr (List.mem_cons_of_mem _ hb)
    have hq : ∀ o' c', o' ≠ o → ((s.lay x ⟨s.sh x, none⟩).ob o').ct = some c' → o' ≠ x ∧ (s.ob o').ct = some c' := fun o' c' _ hc' => by
      rw [St.ob_lay] at hc'
      split at hc'
      · cases hc'
      · exact ⟨by assumption, hc'⟩
    rcases hb' with hb' | hb'
    · have := hownx.2 b (hFx b hb')
      refine ⟨this.1, this.2.1, this.2.2.1, this.2.2.2, fun o' c' hne hc' => ?_⟩
      obtain ⟨q1, q2⟩ := hq o' c' hne hc'
      rw [upd_other _ _ _ q1]
      exact h3.dis x o' _ c' hxc q2 (Ne.symm q1) b (hFx b hb')
    · have := hown.2 b hb'
      refine ⟨this.1, this.2.1, this.2.2.1, this.2.2.2, fun o' c' hne hc' => ?_⟩
      obtain ⟨q1, q2⟩ := hq o' c' hne hc'
      rw [upd_other _ _ _ q1]
      exact h3.dis o o' _ c' ho q2 (Ne.symm hne) b hb'⟩)
  refine (show Rep C ((s.lay x ⟨s.sh x, none⟩).lay o ⟨s.sh o, some (.cells (cs.set i d))⟩) a w from ⟨h1, h2, _, S, _, d1, fun t => d2 _ _ (a2 _ _ (h4 t))⟩).ext (fun t => rfl) (fun y => rfl) rfl
theorem vc_clo {sl : List (Nat × D)} {hp : List (Nat × Ob)} {dk : List Nat} {c : Code} {Q : Exit → St → Prop} (o i x : Nat) {sh shx : Sh} {cs cs' : List D} {cx : Cont} {r d : D} (ho : (⟨sl, hp, dk⟩ : St).ob o = ⟨sh, some (.cells cs)⟩) (hi : cs[i]? = some r) (hr : r.isR = true) (hx : Nat.beq x o = false)
    (hxc : (⟨sl, hp, dk⟩ : St).ob x = ⟨shx, some cx⟩) (hm : Mat ⟨sl, hp, dk⟩ r d [x] []) (hd : d.fr1 = true) (hcs : cs.set i d = cs') (h : VC C c ⟨sl, (o, ⟨sh, some (.cells cs')⟩) :: (x, ⟨shx, none⟩) :: hp, dk⟩ Q) : VC C c ⟨sl, hp, dk⟩ Q := by
  subst hcs
  have hx' : x ≠ o := fun e => by subst e; simp at hx
  have := wk_close (C := C) (s := ⟨sl, hp, dk⟩) o i x (by rw [ho]) hi hr (by rw [hxc]) hm hd hx'
  rw [ho, hxc] at this
  exact h.weak this
theorem vc_close {sl : List (Nat × D)} {hp : List (Nat × Ob)} {dk : List Nat} {c : Code} {Q : Exit → St → Prop} (o i x : Nat) {sh shx : Sh} {cs cs' : List D} {l : List UInt8} {g off len : Nat} (ho : (⟨sl, hp, dk⟩ : St).ob o = ⟨sh, some (.cells cs)⟩) (hi : cs[i]? = some (.sl x g off len)) (hx : Nat.beq x o = false)
    (hxc : (⟨sl, hp, dk⟩ : St).ob x = ⟨shx, some (.bytes l)⟩) (hg : g = shx.gen) (he : shx.esz = 1) (hcs : cs.set i (.ownb ((l.drop off).take len)) = cs') (h : VC C c ⟨sl, (o, ⟨sh, some (.cells cs')⟩) :: (x, ⟨shx, none⟩) :: hp, dk⟩ Q) : VC C c ⟨sl, hp, dk⟩ Q := by
  have hshx : (⟨sl, hp, dk⟩ : St).sh x = shx := by unfold St.sh; rw [hxc]
  exact vc_clo o i x ho hi rfl hx hxc (.sl_b x g off len l (by rw [hxc]) (by rw [hshx]; exact hg) (by rw [hshx]; exact he)) rfl hcs h
/-- Cells that own nothing but themselves, or bytes, go into the cell that names them. -/
theorem vc_closes {sl : List (Nat × D)} {hp : List (Nat × Ob)} {dk : List Nat} {c : Code} {Q : Exit → St → Prop} (o i x : Nat) {sh shx : Sh} {cs cs' cx : List D} {g len e : Nat} (ho : (⟨sl, hp, dk⟩ : St).ob o = ⟨sh, some (.cells cs)⟩) (hi : cs[i]? = some (.sl x g 0 len)) (hx : Nat.beq x o = false)
    (hxc : (⟨sl, hp, dk⟩ : St).ob x = ⟨shx, some (.cells cx)⟩) (hg : g = shx.gen) (he : shx.esz = e) (h0 : Nat.blt 0 e = true) (hl : cx.length = len * e) (hd : cx.all D.fr0 = true) (hcs : cs.set i (.owns e len cx) = cs') (h : VC C c ⟨sl, (o, ⟨sh, some (.cells cs')⟩) :: (x, ⟨shx, none⟩) :: hp, dk⟩ Q) : VC C c ⟨sl, hp, dk⟩ Q := by
  have hshx : (⟨sl, hp, dk⟩ : St).sh x = shx := by unfold St.sh; rw [hxc]
  exact vc_clo o i x ho hi rfl hx hxc (.sl_f x g len e cx (by rw [hxc]) (by rw [hshx]; exact hg) (by rw [hshx]; exact he) (by simpa [Nat.blt_eq] using h0) hl hd) hd hcs h
theorem vc_closep {sl : List (Nat × D)} {hp : List (Nat × Ob)} {dk : List Nat} {c : Code} {Q : Exit → St → Prop} (o i x : Nat) {sh shx : Sh} {cs cs' cx : List D} {g : Nat} (ho : (⟨sl, hp, dk⟩ : St).ob o = ⟨sh, some (.cells cs)⟩) (hi : cs[i]? = some (.ptr x g 0)) (hx : Nat.beq x o = false)
    (hxc : (⟨sl, hp, dk⟩ : St).ob x = ⟨shx, some (.cells cx)⟩) (hg : g = shx.gen) (h0 : Nat.blt 0 cx.length = true) (hd : cx.all D.fr0 = true) (hcs : cs.set i (.ownp cx) = cs') (h : VC C c ⟨sl, (o, ⟨sh, some (.cells cs')⟩) :: (x, ⟨shx, none⟩) :: hp, dk⟩ Q) : VC C c ⟨sl, hp, dk⟩ Q := by
  have hshx : (⟨sl, hp, dk⟩ : St).sh x = shx := by unfold St.sh; rw [hxc]
  exact vc_clo o i x ho hi rfl hx hxc (.ptr_f x g cx (by rw [hxc]) (by rw [hshx]; exact hg) hd (by simpa [Nat.blt_eq] using h0)) hd hcs h
end
/-! What is owned are rows. -/
section
variable {w w' : World} {S : Nat → Prop} {ρ : Nat → Pl} {H : Nat → Sh}
theorem RowAt.rows {A : Option Addr} {n cap s : Nat} {F : List Nat} {cur : Array Value} {off : Nat} (h : RowAt w A n cap s F cur off) : ∀ b ∈ F, ∃ cur E fz, w.heap[b]? = some (.cells cur E fz) := by
  obtain ⟨_, _, h3⟩ := h
  rcases h3 with ⟨_, _, rfl⟩ | ⟨b, E, fz, rfl, _, hh, _⟩
  · simp
  · intro b' hb'
    obtain rfl : b' = b := by simpa using hb'
    exact ⟨_, _, _, hh⟩
theorem flat_rows {Fs : List (List Nat)} {p : Nat → Prop} (h : ∀ (i : Nat) (f : List Nat), Fs[i]? = some f → ∀ b ∈ f, p b) : ∀ b ∈ Fs.flatten, p b := by
  intro b hb
  obtain ⟨f, hf, hbf⟩ := List.mem_flatten.1 hb
  obtain ⟨i, hi⟩ := List.getElem?_of_mem hf
  exact h i f hi b hbf
theorem RV.rows {d : D} {v : Value} {F : List Nat} (h : RV w S ρ H d v F) : ∀ b ∈ F, ∃ cur E fz, w.heap[b]? = some (.cells cur E fz) := by
  induction h with
  | agg cs vs Fs F hv hf hF hr ih =>
    subst hF
    exact flat_rows fun i f hi => by
      have h1 : i < Fs.length := (List.getElem?_eq_some_iff.1 hi).1
      exact ih i _ _ f (List.getElem?_eq_getElem (by omega)) (List.getElem?_eq_getElem (by omega)) hi
  | tup cs vs Fs F hv hf hF hr ih =>
    subst hF
    exact flat_rows fun i f hi => by
      have h1 : i < Fs.length := (List.getElem?_eq_some_iff.1 hi).1
      exact ih i _ _ f (List.getElem?_eq_getElem (by omega)) (List.getElem?_eq_getElem (by omega)) hi
  | ownb l A n cap F cur off hl h hc => exact h.rows
  | owns s n cs A cap F F0 Fs cur off hl h hf hF hr ih =>
    subst hF
    intro b hb
    rcases List.mem_append.1 hb with hb | hb
    · exact h.rows b hb
    · refine flat_rows (p := fun b => ∃ cur E fz, w.heap[b]? = some (.cells cur E fz)) (fun i f hi => ?_) b hb
      have h1 : i < Fs.length := (List.getElem?_eq_some_iff.1 hi).1
      rcases h with ⟨q1, q2, q3⟩
      rcases q3 with ⟨q3, _, _⟩ | ⟨b', E, fz, _, _, hh, _, hfit⟩
      · rw [hf, hl, q3, Nat.zero_mul] at h1; omega
      · have hlt : off + i < cur.size := by
          have : n * s ≤ cap * s := Nat.mul_le_mul_right s q1
          omega
        exact ih i _ _ f (List.getElem?_eq_getElem (by omega)) (Array.getElem?_eq_getElem hlt) hi
  | ownp cs b base cur E fz F Fs hh hz hs hf hF hr ih =>
    subst hF
    intro b' hb'
    rcases List.mem_cons.1 hb' with rfl | hb'
    · exact ⟨_, _, _, hh⟩
    · refine flat_rows (p := fun b => ∃ cur E fz, w.heap[b]? = some (.cells cur E fz)) (fun i f hi => ?_) b' hb'
      have h1 : i < Fs.length := (List.getElem?_eq_some_iff.1 hi).1
      exact ih i _ _ f (List.getElem?_eq_getElem (by omega)) (Array.getElem?_eq_getElem (show base + i < cur.size by omega)) hi
  | _ => simp
theorem ObR.rows {p : Pl} {h : Sh} {c : Cont} {F : List Nat} (hr : ObR w S ρ H p h c F) : ∀ b ∈ F, ∃ cur E fz, w.heap[b]? = some (.cells cur E fz) := by
  obtain ⟨_, h2⟩ := hr
  rcases h2 with ⟨_, rfl, _⟩ | ⟨cur, E, fz, Fs, hh, hz, hs, hb, rfl, hc⟩
  · simp
  · intro b' hb'
    rcases List.mem_cons.1 hb' with rfl | hb'
    · exact ⟨_, _, _, hh⟩
    · cases c with
      | bytes l => rw [hc.1] at hb'; simp at hb'
      | cells cs =>
        refine flat_rows (p := fun b => ∃ cur E fz, w.heap[b]? = some (.cells cur E fz)) (fun i f hi => ?_) b' hb'
        have h1 : i < Fs.length := (List.getElem?_eq_some_iff.1 hi).1
        have h2 : i < cs.length := by rw [← hc.1]; exact h1
        have h3 : p.base + i < cur.size := by simp only [Cont.len] at hb; omega
        exact (hc.2 i _ _ f (List.getElem?_eq_getElem h2) (Array.getElem?_eq_getElem h3) hi).rows
end


/-! Bytes that cells own are handed to the readers: nobody may change them any more. -/
def frz : D → D
  | .ownb l => .rob l
  | d => d
theorem rob_of_ownb {w : World} {S S' : Nat → Prop} {ρ : Nat → Pl} {H : Nat → Sh} {l : List UInt8} {v : Value} {F : List Nat} (h : RV w S ρ H (.ownb l) v F) (hF : ∀ b ∈ F, S' b) : RV w S' ρ H (.rob l) v [] := by
  cases h with
  | ownb _ A n cap F cur off hl hrow hc =>
    obtain ⟨r1, r2, r3⟩ := hrow
    refine .rob l A n cap ⟨hl, r1, r2, fun hn => ?_⟩
    rcases r3 with ⟨e, _⟩ | ⟨b, E, fz, rfl, rfl, hh, _⟩
    · omega
    · refine ⟨b, off, rfl, hF b (by simp), fun i hi => ?_⟩
      rw [cell_of_row w _ _ cur E fz hh]
      exact hc i hi
section
variable {C : Ctx} {s : St}
theorem wk_freeze (o : Nat) {cs : List D} (ho : (s.ob o).ct = some (.cells cs)) (hc : cs.all D.fr0 = true) : Wk C s (s.lay o ⟨(s.ob o).sh, some (.cells (cs.map frz))⟩) := by
  intro a w hr
  obtain ⟨h1, h2, ρ, S, Φ, h3, h4⟩ := hr
  obtain ⟨hlen, hcase⟩ := h3.ob o _ ho
  have hshe : (s.lay o ⟨(s.ob o).sh, some (.cells (cs.map frz))⟩).sh = s.sh := by rw [St.sh_lay]; exact upd_self s.sh o
  have hobo : (s.lay o ⟨(s.ob o).sh, some (.cells (cs.map frz))⟩).ob o = ⟨(s.ob o).sh, some (.cells (cs.map frz))⟩ := by rw [St.ob_lay, if_pos rfl]
  have hobx : ∀ x, x ≠ o → (s.lay o ⟨(s.ob o).sh, some (.cells (cs.map frz))⟩).ob x = s.ob x := fun x hx => by rw [St.ob_lay, if_neg hx]
  have hslot : ∀ t, (s.lay o ⟨(s.ob o).sh, some (.cells (cs.map frz))⟩).slot t = s.slot t := fun _ => rfl
  have hdk : (s.lay o ⟨(s.ob o).sh, some (.cells (cs.map frz))⟩).dk = s.dk := rfl
  generalize (s.lay o ⟨(s.ob o).sh, some (.cells (cs.map frz))⟩ : St) = s' at *
  have hown := h3.own o _ ho
  rcases hcase with ⟨h0, hF, hp⟩ | ⟨cur, E, fz, Fs, hh, hz, hs, hbz, hF, hfl, hct⟩
  · have hcs : cs = [] := List.eq_nil_of_length_eq_zero h0
    subst hcs
    have hob : ∀ x, s'.ob x = s.ob x := fun x => by
      by_cases hx : x = o
      · subst hx
        rw [hobo, List.map_nil, ← ho]
      · exact hobx x hx
    have hrw : RepW C s' ρ S Φ w := h3.congr hob hdk
    exact ⟨by rw [hdk]; exact h1, h2, ρ, S, Φ, hrw, fun t => by rw [hslot, hshe]; exact h4 t⟩
  · have hnd : Fs.flatten.Nodup ∧ (ρ o).blk ∉ Fs.flatten := by
      have := hown.1
      rw [hF] at this
      exact ⟨(List.nodup_cons.1 this).2, (List.nodup_cons.1 this).1⟩
    have hin : ∀ b ∈ Fs.flatten, b ∈ Φ o := fun b hb => by rw [hF]; exact List.mem_cons_of_mem _ hb
    let S' : Nat → Prop := fun b => S b ∨ b ∈ Fs.flatten
    have hSS : ∀ b, S b → S' b := fun _ h => .inl h
    have hm : ∀ {d v F}, RV w S ρ s.sh d v F → RV w S' ρ s.sh d v F := fun hr => hr.mono hSS (fun _ _ => rfl) (fun _ => ⟨Nat.le_refl _, fun _ => ⟨rfl, rfl⟩⟩) (fun _ _ => rfl)
    have hdkn : s.dk.Nodup ∧ ∀ r ∈ s.dk, C.w0.heap.size ≤ r ∧ ¬ S' r := ⟨h3.dkn.1, fun r hr => ⟨(h3.dkn.2 r hr).1, fun hb => by
      rcases hb with hb | hb
      · exact (h3.dkn.2 r hr).2 hb
      · exact (hown.2 r (hin r hb)).2.2.2 hr⟩⟩
    have hrep : RepW C s' ρ S' (upd Φ o [(ρ o).blk]) w := by
      refine ⟨h3.os, h3.tape, h3.output, h3.size, h3.szs, h3.fr, fun b hb => .inl (h3.s0 b hb), fun b hb => ?_, fun b hb => ?_, fun g c hg => by rw [hshe]; exact hm (h3.gl g c hg), fun x c hx => ?_, fun d v hv => by rw [hshe]; exact hm (h3.rv d v hv), by rw [hdk]; exact h3.dk, by rw [hdk]; exact hdkn, fun x c hx => ?_, fun x y c c' hx hy hne b hb hb' => ?_⟩
      · rcases hb with hb | hb
        · exact h3.s1 b hb
        · obtain ⟨_, q2, q3, _⟩ := hown.2 b (hin b hb)
          rcases q3 with q3 | q3
          · exact ⟨q2, .inr (.inl q3)⟩
          · exact ⟨q2, .inr (.inr q3)⟩
      · rcases hb with hb | hb
        · exact h3.sc b hb
        · exact (h3.ob o _ ho).rows b (hin b hb)
      · by_cases hxo : x = o
        · subst hxo
          rw [hobo] at hx
          have hc' : Cont.cells (cs.map frz) = c := by simpa using hx
          subst hc'
          rw [upd_same, hshe]
          refine ⟨by simpa [Cont.len] using hlen, .inr ⟨cur, E, fz, Fs.map fun _ => [], hh, hz, hs, by simpa [Cont.len] using hbz, by simp, by simpa using hfl, fun i c u f p1 p2 p3 => ?_⟩⟩
          rw [List.getElem?_map] at p1 p3
          obtain ⟨d, hd, rfl⟩ := Option.map_eq_some_iff.1 p1
          obtain ⟨Fi, hFi, rfl⟩ := Option.map_eq_some_iff.1 p3
          have hrv := hct i d u Fi hd p2 hFi
          have hfd : d.fr0 = true := all_get hc hd
          cases d with
          | ownb l => exact rob_of_ownb hrv fun b hb => .inr (mem_flat_of hFi hb)
          | _ => exact hm (pf1_nv (by exact hfd) hrv).2
        · rw [hobx x hxo] at hx
          rw [upd_other _ _ _ hxo, hshe]
          exact (h3.ob x c hx).mono hSS (fun _ _ => rfl) (fun _ => ⟨Nat.le_refl _, fun _ => ⟨rfl, rfl⟩⟩) (fun _ _ => rfl)
      · rw [hdk]
        by_cases hxo : x = o
        · subst hxo
          rw [upd_same]
          refine ⟨by simp, fun b hb => ?_⟩
          obtain rfl : b = (ρ x).blk := by simpa using hb
          obtain ⟨q1, q2⟩ := hown.2 (ρ x).blk (by rw [hF]; simp)
          exact ⟨fun h => by rcases h with h | h; exact q1 h; exact hnd.2 h, q2⟩
        · rw [hobx x hxo] at hx
          rw [upd_other _ _ _ hxo]
          refine ⟨(h3.own x c hx).1, fun b hb => ?_⟩
          obtain ⟨q1, q2⟩ := (h3.own x c hx).2 b hb
          exact ⟨fun h => by rcases h with h | h; exact q1 h; exact h3.dis x o c _ hx ho hxo b hb (hin b h), q2⟩
      · have key : ∀ x b, b ∈ upd Φ o [(ρ o).blk] x → b ∈ Φ x := fun x b hb => by
          by_cases hxo : x = o
          · subst hxo
            rw [upd_same] at hb
            rw [hF]
            obtain rfl : b = (ρ x).blk := by simpa using hb
            simp
          · rwa [upd_other _ _ _ hxo] at hb
        have ct : ∀ x c, (s'.ob x).ct = some c → ∃ c', (s.ob x).ct = some c' := fun x c hx => by
          by_cases hxo : x = o
          · subst hxo; exact ⟨_, ho⟩
          · exact ⟨c, by rw [← hobx x hxo]; exact hx⟩
        obtain ⟨c1, hc1⟩ := ct x c hx
        obtain ⟨c2, hc2⟩ := ct y c' hy
        exact h3.dis x y c1 c2 hc1 hc2 hne b (key x b hb) (key y b hb')
    exact ⟨by rw [hdk]; exact h1, h2, ρ, S', _, hrep, fun t => by rw [hslot, hshe]; exact hm (h4 t)⟩
theorem vc_freeze {sl : List (Nat × D)} {hp : List (Nat × Ob)} {dk : List Nat} {c : Code} {Q : Exit → St → Prop} (o : Nat) {sh : Sh} {cs cs' : List D} (ho : (⟨sl, hp, dk⟩ : St).ob o = ⟨sh, some (.cells cs)⟩) (hc : cs.all D.fr0 = true) (hcs : cs.map frz = cs') (h : VC C c ⟨sl, (o, ⟨sh, some (.cells cs')⟩) :: hp, dk⟩ Q) : VC C c ⟨sl, hp, dk⟩ Q := by
  subst hcs
  have := wk_freeze (C := C) (s := ⟨sl, hp, dk⟩) o (by rw [ho]) hc
  rw [ho] at this
  exact h.weak this
/-- An object is given to the readers: slot t reads it, and nobody may change it any more. -/
theorem wk_give (t o : Nat) {d : D} {c0 : Cont} (ho : (s.ob o).ct = some c0) (hm : Mat s (s.slot t) d [] [o]) (hd : d.pf = true) : Wk C s ⟨(t, d) :: s.sl, (o, ⟨(s.ob o).sh, none⟩) :: s.hp, s.dk⟩ := by
  intro a w hr
  obtain ⟨h1, h2, ρ, S, Φ, h3, h4⟩ := hr
  have hown := h3.own o _ ho
  have hSS : ∀ b, S b → Lent s ρ S Φ [o] b := fun _ h => .inl h
  have hLe : ∀ b, Lent s ρ S Φ [o] b → S b ∨ b ∈ Φ o := fun b hb => by
    rcases hb with hb | ⟨x, hx, _, hb, _⟩
    · exact .inl hb
    · obtain rfl : x = o := by simpa using hx
      exact .inr hb
  obtain ⟨F, k1, _, k3⟩ := hm.sound h3 hSS (lent_ok h3 [o]) (by simp) (h4 t)
  have hm' : ∀ {e v F}, RV w S ρ s.sh e v F → RV w (Lent s ρ S Φ [o]) ρ s.sh e v F := fun hr => hr.mono hSS (fun _ _ => rfl) (fun _ => ⟨Nat.le_refl _, fun _ => ⟨rfl, rfl⟩⟩) (fun _ _ => rfl)
  have hobx : ∀ x, (⟨(t, d) :: s.sl, (o, ⟨(s.ob o).sh, none⟩) :: s.hp, s.dk⟩ : St).ob x = if x = o then ⟨(s.ob o).sh, none⟩ else s.ob x := fun x => by
    simp only [St.ob, look]
    by_cases hx : x = o
    · subst hx; simp
    · rw [if_neg (fun e => hx e.symm), if_neg hx]
  have hshe : (⟨(t, d) :: s.sl, (o, ⟨(s.ob o).sh, none⟩) :: s.hp, s.dk⟩ : St).sh = s.sh := by
    funext x
    unfold St.sh
    rw [hobx]
    split
    · rename_i e; subst e; rfl
    · rfl
  have hslot : ∀ x, (⟨(t, d) :: s.sl, (o, ⟨(s.ob o).sh, none⟩) :: s.hp, s.dk⟩ : St).slot x = if t = x then d else s.slot x := fun x => by simp only [St.slot, look]
  have hlive : ∀ x c, ((⟨(t, d) :: s.sl, (o, ⟨(s.ob o).sh, none⟩) :: s.hp, s.dk⟩ : St).ob x).ct = some c → x ≠ o ∧ (s.ob x).ct = some c := fun x c hx => by
    rw [hobx] at hx
    split at hx
    · cases hx
    · exact ⟨by assumption, hx⟩
  generalize hs' : (⟨(t, d) :: s.sl, (o, ⟨(s.ob o).sh, none⟩) :: s.hp, s.dk⟩ : St) = s' at *
  have hdk : s'.dk = s.dk := by rw [← hs']
  have hdkn : s.dk.Nodup ∧ ∀ r ∈ s.dk, C.w0.heap.size ≤ r ∧ ¬ Lent s ρ S Φ [o] r := ⟨h3.dkn.1, fun r hr => ⟨(h3.dkn.2 r hr).1, fun hb => by
    rcases hLe r hb with hb | hb
    · exact (h3.dkn.2 r hr).2 hb
    · exact (hown.2 r hb).2.2.2 hr⟩⟩
  have hrep : RepW C s' ρ (Lent s ρ S Φ [o]) Φ w := by
    refine ⟨h3.os, h3.tape, h3.output, h3.size, h3.szs, h3.fr, fun b hb => .inl (h3.s0 b hb), fun b hb => ?_, fun b hb => ?_, fun g c hg => by rw [hshe]; exact hm' (h3.gl g c hg), fun x c hx => ?_, fun e v hv => by rw [hshe]; exact hm' (h3.rv e v hv), by rw [hdk]; exact h3.dk, by rw [hdk]; exact hdkn, fun x c hx => ?_, fun x y c c' hx hy hne => h3.dis x y c c' (hlive x c hx).2 (hlive y c' hy).2 hne⟩
    · rcases hLe b hb with hb | hb
      · exact h3.s1 b hb
      · obtain ⟨_, q2, q3, _⟩ := hown.2 b hb
        rcases q3 with q3 | q3
        · exact ⟨q2, .inr (.inl q3)⟩
        · exact ⟨q2, .inr (.inr q3)⟩
    · rcases hLe b hb with hb | hb
      · exact h3.sc b hb
      · exact (h3.ob o _ ho).rows b hb
    · rw [hshe]
      exact (h3.ob x c (hlive x c hx).2).mono hSS (fun _ _ => rfl) (fun _ => ⟨Nat.le_refl _, fun _ => ⟨rfl, rfl⟩⟩) (fun _ _ => rfl)
    · rw [hdk]
      obtain ⟨hxo, hx'⟩ := hlive x c hx
      refine ⟨(h3.own x c hx').1, fun b hb => ?_⟩
      obtain ⟨q1, q2⟩ := (h3.own x c hx').2 b hb
      exact ⟨fun h => by rcases hLe b h with h | h; exact q1 h; exact h3.dis x o c _ hx' ho hxo b hb h, q2⟩
  refine ⟨by rw [hdk]; exact h1, h2, ρ, _, _, hrep, fun x => ?_⟩
  rw [hslot, hshe]
  split
  · rename_i e
    subst e
    exact (pf_nv hd k1).2
  · exact hm' (h4 x)
theorem vc_give {sl : List (Nat × D)} {hp : List (Nat × Ob)} {dk : List Nat} {c : Code} {Q : Exit → St → Prop} (t o : Nat) {sh : Sh} {c0 : Cont} {d e : D} (ho : (⟨sl, hp, dk⟩ : St).ob o = ⟨sh, some c0⟩) (he : frc (look .bot sl t) = some e) (hm : Mat ⟨sl, hp, dk⟩ e d [] [o]) (hd : d.pf = true) (h : VC C c ⟨(t, d) :: sl, (o, ⟨sh, none⟩) :: hp, dk⟩ Q) : VC C c ⟨sl, hp, dk⟩ Q := by
  have := wk_give (C := C) (s := ⟨sl, hp, dk⟩) t o (d := d) (by rw [ho]) (by rw [show (⟨sl, hp, dk⟩ : St).slot t = e from frc_ok he]; exact hm) hd
  rw [ho] at this
  exact h.weak this
/-! The same, where only less is kept. -/
theorem wclo {sl : List (Nat × D)} {hp : List (Nat × Ob)} {dk : List Nat} {s2 : St} (o i x : Nat) {sh shx : Sh} {cs cs' : List D} {cx : Cont} {r d : D} (ho : (⟨sl, hp, dk⟩ : St).ob o = ⟨sh, some (.cells cs)⟩) (hi : cs[i]? = some r) (hr : r.isR = true) (hx : Nat.beq x o = false)
    (hxc : (⟨sl, hp, dk⟩ : St).ob x = ⟨shx, some cx⟩) (hm : Mat ⟨sl, hp, dk⟩ r d [x] []) (hd : d.fr1 = true) (hcs : cs.set i d = cs') (h : Wk C ⟨sl, (o, ⟨sh, some (.cells cs')⟩) :: (x, ⟨shx, none⟩) :: hp, dk⟩ s2) : Wk C ⟨sl, hp, dk⟩ s2 := by
  subst hcs
  have hx' : x ≠ o := fun e => by subst e; simp at hx
  have := wk_close (C := C) (s := ⟨sl, hp, dk⟩) o i x (by rw [ho]) hi hr (by rw [hxc]) hm hd hx'
  rw [ho, hxc] at this
  exact this.trans h
theorem wclose {sl : List (Nat × D)} {hp : List (Nat × Ob)} {dk : List Nat} {s2 : St} (o i x : Nat) {sh shx : Sh} {cs cs' : List D} {l : List UInt8} {g off len : Nat} (ho : (⟨sl, hp, dk⟩ : St).ob o = ⟨sh, some (.cells cs)⟩) (hi : cs[i]? = some (.sl x g off len)) (hx : Nat.beq x o = false)
    (hxc : (⟨sl, hp, dk⟩ : St).ob x = ⟨shx, some (.bytes l)⟩) (hg : g = shx.gen) (he : shx.esz = 1) (hcs : cs.set i (.ownb ((l.drop off).take len)) = cs') (h : Wk C ⟨sl, (o, ⟨sh, some (.cells cs')⟩) :: (x, ⟨shx, none⟩) :: hp, dk⟩ s2) : Wk C ⟨sl, hp, dk⟩ s2 := by
  have hshx : (⟨sl, hp, dk⟩ : St).sh x = shx := by unfold St.sh; rw [hxc]
  exact wclo o i x ho hi rfl hx hxc (.sl_b x g off len l (by rw [hxc]) (by rw [hshx]; exact hg) (by rw [hshx]; exact he)) rfl hcs h
theorem wcloses {sl : List (Nat × D)} {hp : List (Nat × Ob)} {dk : List Nat} {s2 : St} (o i x : Nat) {sh shx : Sh} {cs cs' cx : List D} {g len e : Nat} (ho : (⟨sl, hp, dk⟩ : St).ob o = ⟨sh, some (.cells cs)⟩) (hi : cs[i]? = some (.sl x g 0 len)) (hx : Nat.beq x o = false)
    (hxc : (⟨sl, hp, dk⟩ : St).ob x = ⟨shx, some (.cells cx)⟩) (hg : g = shx.gen) (he : shx.esz = e) (h0 : Nat.blt 0 e = true) (hl : cx.length = len * e) (hd : cx.all D.fr0 = true) (hcs : cs.set i (.owns e len cx) = cs') (h : Wk C ⟨sl, (o, ⟨sh, some (.cells cs')⟩) :: (x, ⟨shx, none⟩) :: hp, dk⟩ s2) : Wk C ⟨sl, hp, dk⟩ s2 := by
  have hshx : (⟨sl, hp, dk⟩ : St).sh x = shx := by unfold St.sh; rw [hxc]
  exact wclo o i x ho hi rfl hx hxc (.sl_f x g len e cx (by rw [hxc]) (by rw [hshx]; exact hg) (by rw [hshx]; exact he) (by simpa [Nat.blt_eq] using h0) hl hd) hd hcs h
theorem look_nm {ns : List Nat} : ∀ {l : List (Nat × D)}, (l.all fun p => p.2.nm.all ns.contains) = true → ∀ t, ∀ o ∈ (look .bot l t).nm, o ∈ ns
  | [], _, t, o, ho => by cases ho
  | (u, d) :: r, h, t, o, ho => by
    simp only [List.all_cons, Bool.and_eq_true] at h
    simp only [look] at ho
    split at ho
    · have := List.all_eq_true.1 h.1 o ho
      simpa using this
    · exact look_nm h.2 t o ho
theorem ros_rof {s n : Nat} {cs : List D} {f : Nat → Nat → D} (h : ∀ i j, i < n → j < s → cs[i * s + j]? = some (f i j) ∧ (f i j).pf0 = true) : Cnv (.ros s n cs) (.rof s n f) := by
  intro w S v F hr
  cases hr with
  | ros _ _ _ A cap b off us hl hn hm hA hc hr =>
    exact .rof s n f A cap b off (fun i j => us (i * s + j)) hn hm (fun i j hi hj => (h i j hi hj).2) hA (fun i j hi hj => hc (by omega) _ _ (h i j hi hj).1) (fun i j hi hj => hr _ _ (h i j hi hj).1)
/-! The rules as steps: what is known turns. -/
theorem kopn {sl : List (Nat × D)} {hp : List (Nat × Ob)} {dk : List Nat} (o i x : Nat) {sh : Sh} {cs cs' : List D} {d : D} {g : Nat} (hd : d.ow = true) (ho : (⟨sl, hp, dk⟩ : St).ob o = ⟨sh, some (.cells cs)⟩) (hi : cs[i]? = some d) (hx : Nat.beq x o = false)
    (hg : ((⟨sl, hp, dk⟩ : St).ob x).sh.gen = g) (hcs : cs.set i (oref d x (g + 1)) = cs') : Wk C ⟨sl, hp, dk⟩ ⟨sl, (o, ⟨sh, some (.cells cs')⟩) :: (x, ⟨⟨g + 1, oesz d, (ocont d).len⟩, some (ocont d)⟩) :: hp, dk⟩ := by
  subst hg
  subst hcs
  have hx' : x ≠ o := fun e => by subst e; simp at hx
  have := wk_open (C := C) (s := ⟨sl, hp, dk⟩) o i x hd (by rw [ho]) hi hx'
  rw [ho] at this
  exact this
theorem kopen {sl : List (Nat × D)} {hp : List (Nat × Ob)} {dk : List Nat} (o i x : Nat) {sh : Sh} {cs cs' : List D} {l : List UInt8} {g : Nat} (ho : (⟨sl, hp, dk⟩ : St).ob o = ⟨sh, some (.cells cs)⟩) (hi : cs[i]? = some (.ownb l)) (hx : Nat.beq x o = false)
    (hg : ((⟨sl, hp, dk⟩ : St).ob x).sh.gen = g) (hcs : cs.set i (.sl x (g + 1) 0 l.length) = cs') : Wk C ⟨sl, hp, dk⟩ ⟨sl, (o, ⟨sh, some (.cells cs')⟩) :: (x, ⟨⟨g + 1, 1, l.length⟩, some (.bytes l)⟩) :: hp, dk⟩ := kopn o i x (d := .ownb l) rfl ho hi hx hg hcs
theorem kopens {sl : List (Nat × D)} {hp : List (Nat × Ob)} {dk : List Nat} (o i x : Nat) {sh : Sh} {cs cs' cs1 : List D} {e n : Nat} {g : Nat} (ho : (⟨sl, hp, dk⟩ : St).ob o = ⟨sh, some (.cells cs)⟩) (hi : cs[i]? = some (.owns e n cs1)) (hd : cs1.all D.fr0 = true) (hx : Nat.beq x o = false)
    (hg : ((⟨sl, hp, dk⟩ : St).ob x).sh.gen = g) (hcs : cs.set i (.sl x (g + 1) 0 n) = cs') : Wk C ⟨sl, hp, dk⟩ ⟨sl, (o, ⟨sh, some (.cells cs')⟩) :: (x, ⟨⟨g + 1, e, cs1.length⟩, some (.cells cs1)⟩) :: hp, dk⟩ := kopn o i x (d := .owns e n cs1) hd ho hi hx hg hcs
theorem kopenp {sl : List (Nat × D)} {hp : List (Nat × Ob)} {dk : List Nat} (o i x : Nat) {sh : Sh} {cs cs' cs1 : List D} {g : Nat} (ho : (⟨sl, hp, dk⟩ : St).ob o = ⟨sh, some (.cells cs)⟩) (hi : cs[i]? = some (.ownp cs1)) (hd : cs1.all D.fr0 = true) (hx : Nat.beq x o = false)
    (hg : ((⟨sl, hp, dk⟩ : St).ob x).sh.gen = g) (hcs : cs.set i (.ptr x (g + 1) 0) = cs') : Wk C ⟨sl, hp, dk⟩ ⟨sl, (o, ⟨sh, some (.cells cs')⟩) :: (x, ⟨⟨g + 1, 1, cs1.length⟩, some (.cells cs1)⟩) :: hp, dk⟩ := kopn o i x (d := .ownp cs1) hd ho hi hx hg hcs
theorem kclose {sl : List (Nat × D)} {hp : List (Nat × Ob)} {dk : List Nat} (o i x : Nat) {sh shx : Sh} {cs cs' : List D} {l : List UInt8} {g off len : Nat} (ho : (⟨sl, hp, dk⟩ : St).ob o = ⟨sh, some (.cells cs)⟩) (hi : cs[i]? = some (.sl x g off len)) (hx : Nat.beq x o = false)
    (hxc : (⟨sl, hp, dk⟩ : St).ob x = ⟨shx, some (.bytes l)⟩) (hg : g = shx.gen) (he : shx.esz = 1) (hcs : cs.set i (.ownb ((l.drop off).take len)) = cs') : Wk C ⟨sl, hp, dk⟩ ⟨sl, (o, ⟨sh, some (.cells cs')⟩) :: (x, ⟨shx, none⟩) :: hp, dk⟩ := wclose o i x ho hi hx hxc hg he hcs (Wk.refl _ _)
theorem kcloses {sl : List (Nat × D)} {hp : List (Nat × Ob)} {dk : List Nat} (o i x : Nat) {sh shx : Sh} {cs cs' cx : List D} {g len e : Nat} (ho : (⟨sl, hp, dk⟩ : St).ob o = ⟨sh, some (.cells cs)⟩) (hi : cs[i]? = some (.sl x g 0 len)) (hx : Nat.beq x o = false)
    (hxc : (⟨sl, hp, dk⟩ : St).ob x = ⟨shx, some (.cells cx)⟩) (hg : g = shx.gen) (he : shx.esz = e) (h0 : Nat.blt 0 e = true) (hl : cx.length = len * e) (hd : cx.all D.fr0 = true) (hcs : cs.set i (.owns e len cx) = cs') : Wk C ⟨sl, hp, dk⟩ ⟨sl, (o, ⟨sh, some (.cells cs')⟩) :: (x, ⟨shx, none⟩) :: hp, dk⟩ := wcloses o i x ho hi hx hxc hg he h0 hl hd hcs (Wk.refl _ _)
theorem kclosep {sl : List (Nat × D)} {hp : List (Nat × Ob)} {dk : List Nat} (o i x : Nat) {sh shx : Sh} {cs cs' cx : List D} {g : Nat} (ho : (⟨sl, hp, dk⟩ : St).ob o = ⟨sh, some (.cells cs)⟩) (hi : cs[i]? = some (.ptr x g 0)) (hx : Nat.beq x o = false)
    (hxc : (⟨sl, hp, dk⟩ : St).ob x = ⟨shx, some (.cells cx)⟩) (hg : g = shx.gen) (h0 : Nat.blt 0 cx.length = true) (hd : cx.all D.fr0 = true) (hcs : cs.set i (.ownp cx) = cs') : Wk C ⟨sl, hp, dk⟩ ⟨sl, (o, ⟨sh, some (.cells cs')⟩) :: (x, ⟨shx, none⟩) :: hp, dk⟩ := by
  have hshx : (⟨sl, hp, dk⟩ : St).sh x = shx := by unfold St.sh; rw [hxc]
  exact wclo o i x ho hi rfl hx hxc (.ptr_f x g cx (by rw [hxc]) (by rw [hshx]; exact hg) hd (by simpa [Nat.blt_eq] using h0)) hd hcs (Wk.refl _ _)
theorem kfreeze {sl : List (Nat × D)} {hp : List (Nat × Ob)} {dk : List Nat} (o : Nat) {sh : Sh} {cs cs' : List D} (ho : (⟨sl, hp, dk⟩ : St).ob o = ⟨sh, some (.cells cs)⟩) (hc : cs.all D.fr0 = true) (hcs : cs.map frz = cs') : Wk C ⟨sl, hp, dk⟩ ⟨sl, (o, ⟨sh, some (.cells cs')⟩) :: hp, dk⟩ := by
  subst hcs
  have := wk_freeze (C := C) (s := ⟨sl, hp, dk⟩) o (by rw [ho]) hc
  rw [ho] at this
  exact this
theorem kgive {sl : List (Nat × D)} {hp : List (Nat × Ob)} {dk : List Nat} (t o : Nat) {sh : Sh} {c0 : Cont} {d e : D} (ho : (⟨sl, hp, dk⟩ : St).ob o = ⟨sh, some c0⟩) (he : frc (look .bot sl t) = some e) (hm : Mat ⟨sl, hp, dk⟩ e d [] [o]) (hd : d.pf = true) : Wk C ⟨sl, hp, dk⟩ ⟨(t, d) :: sl, (o, ⟨sh, none⟩) :: hp, dk⟩ := by
  have := wk_give (C := C) (s := ⟨sl, hp, dk⟩) t o (d := d) (by rw [ho]) (by rw [show (⟨sl, hp, dk⟩ : St).slot t = e from frc_ok he]; exact hm) hd
  rw [ho] at this
  exact this
/-- Bytes, whole. -/
theorem kgiveb {sl : List (Nat × D)} {hp : List (Nat × Ob)} {dk : List Nat} (t o : Nat) {sh : Sh} {l l' : List UInt8} {g off len : Nat} (ho : (⟨sl, hp, dk⟩ : St).ob o = ⟨sh, some (.bytes l)⟩) (he : frc (look .bot sl t) = some (.sl o g off len)) (hg : g = sh.gen) (he1 : sh.esz = 1) (hl : (l.drop off).take len = l') : Wk C ⟨sl, hp, dk⟩ ⟨(t, .rob l') :: sl, (o, ⟨sh, none⟩) :: hp, dk⟩ := by
  subst hl
  have hsh : (⟨sl, hp, dk⟩ : St).sh o = sh := by unfold St.sh; rw [ho]
  exact kgive t o ho he (.sl_rb o g off len l (by rw [ho]) (by rw [hsh]; exact hg) (by rw [hsh]; exact he1)) rfl
/-- Rows, whole, by a function. -/
theorem kgivef {sl : List (Nat × D)} {hp : List (Nat × Ob)} {dk : List Nat} (t o : Nat) {sh : Sh} {cs : List D} {g len : Nat} (f : Nat → Nat → D) (ho : (⟨sl, hp, dk⟩ : St).ob o = ⟨sh, some (.cells cs)⟩) (he : frc (look .bot sl t) = some (.sl o g 0 len)) (hg : g = sh.gen) (he1 : sh.esz = 1) (hl : cs.length = len)
    (hf : ∀ i, i < len → cs[i]? = some (f i 0) ∧ (f i 0).pf0 = true) (hsc : cs.all D.sc = true) (hp0 : cs.all D.pf1 = true) : Wk C ⟨sl, hp, dk⟩ ⟨(t, .rof 1 len f) :: sl, (o, ⟨sh, none⟩) :: hp, dk⟩ := by
  have hsh : (⟨sl, hp, dk⟩ : St).sh o = sh := by unfold St.sh; rw [ho]
  have hm : Mat (⟨sl, hp, dk⟩ : St) (.sl o g 0 len) (.ros 1 len cs) [] [o] := .sl_rs o g 0 len 1 cs cs [] (by rw [ho]) (by rw [hsh]; exact hg) (by rw [hsh]; exact he1) (by decide) (by rw [Nat.mul_one, ← hl, List.drop_zero, List.take_length]; exact hsc) (by rw [Nat.mul_one, ← hl, List.drop_zero, List.take_length]; exact .tall _ hp0)
  exact kgive t o ho he (.cnv _ _ _ _ _ hm (ros_rof fun i j hi hj => by
    obtain rfl : j = 0 := by omega
    rw [Nat.mul_one, Nat.add_zero]
    exact hf i hi)) rfl
end
end Go.Proofs.YtabkpoklihkifaaDoor
