/- Rewriting rules in bundles, for walks; how a function is entered and left. Over any program. -/
import Derived.Test.YtpmbdppppnbmnaaRun
namespace Go.Proofs.Ytpmbdppppnbmnaa
open Go Go.RowKit
set_option linter.unusedVariables false
set_option linter.unusedSimpArgs false

theorem V1 : (∀ cs, (D.agg cs).cells = cs) ∧ (∀ l, (D.aggb l).cells = l.map D.u8) ∧ (Ob.no = ⟨⟨0, 0, 0⟩, none⟩) ∧
    (∀ off s, addO none off s = off) ∧ (∀ i off s, addO (some i) off s = off + i.toNat * s) ∧
    (∀ n, lenO none none n = n) ∧ (∀ a n, lenO (some a) none n = n - a.toNat) ∧ (∀ b n, lenO none (some b) n = b.toNat) ∧ (∀ a b n, lenO (some a) (some b) n = b.toNat - a.toNat) ∧
    (∀ xs, cutB none none xs = xs) ∧ (∀ a xs, cutB (some a) none xs = xs.drop a.toNat) ∧ (∀ b xs, cutB none (some b) xs = xs.take b.toNat) ∧ (∀ a b xs, cutB (some a) (some b) xs = (xs.take b.toNat).drop a.toNat) ∧
    (∀ f, shO none f = f) ∧ (∀ i f, shO (some i) f = fun a b => f (i.toNat + a) b) ∧
    (∀ n, okB none none n = True) ∧ (∀ a n, okB (some a) none n = (0 ≤ a ∧ a ≤ n)) ∧ (∀ b n, okB none (some b) n = (0 ≤ b ∧ b ≤ n)) ∧ (∀ a b n, okB (some a) (some b) n = (0 ≤ a ∧ a ≤ b ∧ b ≤ n)) ∧
    (∀ l, Cont.len (.bytes l) = l.length) ∧ (∀ l, Cont.len (.cells l) = l.length) ∧
    (∀ l, bytN (.rob l) = l.length) ∧ (∀ o g off len, bytN (.sl o g off len) = len) ∧ (∀ l, bytN (.str l) = l.length) ∧ (bytN .nilS = 0) ∧
    (∀ b, gcB true b = b) ∧ (∀ b, gcB false b = !b) ∧ (∀ b x y, pkB 1 b x y = (b || y)) ∧ (∀ b x y, pkB 2 b x y = (b && x)) ∧ (∀ b x y, pkB 0 b x y = cond b x y) ∧ (∀ y, pkK (.const (.bool true)) y = 1) ∧ (∀ t, pkK (.tmp t) (.const (.bool false)) = 2) :=
  ⟨fun _ => rfl, fun _ => rfl, rfl, fun _ _ => rfl, fun _ _ _ => rfl, fun _ => rfl, fun _ _ => rfl, fun _ _ => rfl, fun _ _ _ => rfl, fun _ => rfl, fun _ _ => rfl, fun _ _ => rfl, fun _ _ _ => rfl, fun _ => rfl, fun _ _ => rfl,
    fun _ => rfl, fun _ _ => rfl, fun _ _ => rfl, fun _ _ _ => rfl, fun _ => rfl, fun _ => rfl, fun _ => rfl, fun _ _ _ _ => rfl, fun _ => rfl, rfl, fun _ => rfl, fun _ => rfl, fun _ _ _ => rfl, fun _ _ _ => rfl, fun _ _ _ => rfl, fun _ => rfl, fun _ => rfl⟩
theorem V2 : (∀ a b : Nat, a ≤ b → min a b = a) ∧ (∀ n : Nat, (n : Int).toNat = n) ∧ (∀ n : Nat, n * 1 = n) ∧ (∀ n : Nat, 0 + n = n) ∧ (∀ n : Nat, n + 0 = n) ∧ (∀ n : Nat, n - 0 = n) ∧ (∀ n : Nat, 0 * n = 0) ∧ (∀ n : Int, 0 + n = n) ∧ (∀ n : Int, n + 0 = n) ∧
    (IntKind.i64.bits = 64) ∧ (IntKind.u64.bits = 64) ∧ (IntKind.u8.bits = 8) ∧ (IntKind.u32.bits = 32) ∧
    ((!true) = false) ∧ ((!false) = true) ∧ (∀ b, (true && b) = b) ∧ (∀ b, (b && true) = b) ∧ (∀ b, (false && b) = false) ∧ (∀ b, (b && false) = false) ∧ (∀ b, (true || b) = true) ∧ (∀ b, (b || true) = true) ∧ (∀ b, (false || b) = b) ∧ (∀ b, (b || false) = b) ∧ (∀ b : Bool, (!!b) = b) ∧
    (∀ x y : D, cond true x y = x) ∧ (∀ x y : D, cond false x y = y) ∧ (decide True = true) ∧ (decide False = false) :=
  ⟨fun _ _ h => Nat.min_eq_left h, fun n => Int.toNat_natCast n, Nat.mul_one, Nat.zero_add, Nat.add_zero, Nat.sub_zero, Nat.zero_mul, Int.zero_add, Int.add_zero, rfl, rfl, rfl, rfl, rfl, rfl, Bool.true_and, Bool.and_true, Bool.false_and, Bool.and_false, Bool.true_or, Bool.or_true, Bool.false_or, Bool.or_false, Bool.not_not, fun _ _ => rfl, fun _ _ => rfl, by decide, by decide⟩
theorem V3 : (∀ l : List UInt8, l.drop 0 = l) ∧ (∀ l : List D, l.drop 0 = l) ∧ (∀ l : List UInt8, l.take l.length = l) ∧ (∀ l : List D, l.take l.length = l) ∧ (∀ (n : Nat) (x : UInt8), (List.replicate n x).length = n) ∧ (∀ (n : Nat) (x : D), (List.replicate n x).length = n) ∧
    (∀ (n : Nat) (l : List UInt8), (l.drop n).length = l.length - n) ∧ (∀ (n : Nat) (l : List UInt8), (l.take n).length = min n l.length) ∧ (∀ a b : List UInt8, (a ++ b).length = a.length + b.length) ∧ (∀ (a : UInt8) (b : List UInt8), (a :: b).length = b.length + 1) ∧ (([] : List UInt8).length = 0) ∧
    (∀ (n : Nat) (l : List D), (l.drop n).length = l.length - n) ∧ (∀ (n : Nat) (l : List D), (l.take n).length = min n l.length) ∧ (∀ a b : List D, (a ++ b).length = a.length + b.length) ∧ (∀ (a : D) (b : List D), (a :: b).length = b.length + 1) ∧ (([] : List D).length = 0) ∧
    (∀ (l : List UInt8) (i : Nat) (x : UInt8), (l.set i x).length = l.length) ∧ (∀ (l : List D) (i : Nat) (x : D), (l.set i x).length = l.length) ∧ (∀ l : List UInt8, (l.map D.u8).length = l.length) ∧
    (∀ (a : D) (l : List D) (x : D), (a :: l).set 0 x = x :: l) ∧ (∀ (a : D) (l : List D) (i : Nat) (x : D), (a :: l).set (i + 1) x = a :: l.set i x) ∧ (∀ (a : UInt8) (l : List UInt8) (x : UInt8), (a :: l).set 0 x = x :: l) ∧ (∀ (a : UInt8) (l : List UInt8) (i : Nat) (x : UInt8), (a :: l).set (i + 1) x = a :: l.set i x) ∧
    (∀ (a : D) (l : List D), (a :: l).getD 0 .bot = a) ∧ (∀ (a : D) (l : List D) (i : Nat), (a :: l).getD (i + 1) .bot = l.getD i .bot) ∧
    (∀ l : List UInt8, [] ++ l = l) ∧ (∀ l : List UInt8, l ++ [] = l) ∧ (∀ (a : UInt8) (l m : List UInt8), (a :: l) ++ m = a :: (l ++ m)) ∧ (∀ l : List D, [] ++ l = l) ∧ (∀ l : List D, l ++ [] = l) ∧ (∀ (a : D) (l m : List D), (a :: l) ++ m = a :: (l ++ m)) ∧
    (∀ (a : D) (l : List D) (n : Nat), (a :: l).take (n + 1) = a :: l.take n) ∧ (∀ (l : List D), l.take 0 = []) ∧ (∀ (a : D) (l : List D) (n : Nat), (a :: l).drop (n + 1) = l.drop n) ∧ (∀ n, ([] : List D).drop n = []) ∧ (∀ n, ([] : List D).take n = []) ∧ (∀ (n : Nat), List.map D.u8 (List.replicate n 0) = List.replicate n (.u8 0)) ∧
    (∀ (k : Bool) (cs : List D), k = true → aggD k cs = .aggb (cs.map D.toU8)) ∧ (∀ (k : Bool) (cs : List D), k = false → aggD k cs = .agg cs) ∧ (∀ l : List UInt8, (l.map D.u8).map D.toU8 = l) :=
  ⟨fun _ => rfl, fun _ => rfl, fun l => List.take_length, fun l => List.take_length, fun _ _ => by simp, fun _ _ => by simp, fun _ _ => by simp, fun _ _ => by simp, fun _ _ => by simp, fun _ _ => by simp, rfl, fun _ _ => by simp, fun _ _ => by simp, fun _ _ => by simp, fun _ _ => by simp, rfl, fun _ _ _ => by simp, fun _ _ _ => by simp, fun _ => by simp,
    fun _ _ _ => rfl, fun _ _ _ _ => rfl, fun _ _ _ => rfl, fun _ _ _ _ => rfl, fun _ _ => rfl, fun _ _ _ => rfl, fun _ => rfl, fun l => List.append_nil l, fun _ _ _ => rfl, fun _ => rfl, fun l => List.append_nil l, fun _ _ _ => rfl, fun _ _ _ => rfl, fun _ => rfl, fun _ _ _ => rfl, fun n => by cases n <;> rfl, fun n => by cases n <;> rfl, fun n => by simp,
    fun k cs h => by subst h; rfl, fun k cs h => by subst h; rfl, map_toU8⟩
theorem V4 : (∀ n, inR .i64 n ↔ -9223372036854775808 ≤ n ∧ n ≤ 9223372036854775807) ∧ (∀ n, inR .u64 n ↔ 0 ≤ n ∧ n ≤ 18446744073709551615) ∧ (∀ p : Prop, (True ∧ p) = p) ∧ (∀ p : Prop, (p ∧ True) = p) :=
  ⟨inR_i64, inR_u64, fun p => by simp, fun p => by simp⟩
theorem VL : (∀ n : Nat, b8 (no_index (OfNat.ofNat n : Int)) = (OfNat.ofNat n : UInt8)) ∧ (∀ n : Nat, w32 (no_index (OfNat.ofNat n : Int)) = (OfNat.ofNat n : UInt32)) := ⟨b8_lit, w32_lit⟩
theorem V5 : (∀ cs, ctOf true cs = .bytes (cs.map D.toU8)) ∧ (∀ cs, ctOf false cs = .cells cs) ∧ (∀ x, (D.u8 x).cells = [.u8 x]) ∧ (∀ x, (D.u32 x).cells = [.u32 x]) ∧ (∀ b, (D.bool b).cells = [.bool b]) ∧ (∀ k n, (D.int k n).cells = [.int k n]) ∧ (∀ l, (D.str l).cells = [.str l]) ∧
    (∀ o g off n, (D.sl o g off n).cells = [.sl o g off n]) ∧ (∀ o g off, (D.ptr o g off).cells = [.ptr o g off]) ∧ (∀ l, (D.rob l).cells = [.rob l]) ∧ (D.nilS.cells = [.nilS]) ∧ (D.nilP.cells = [.nilP]) ∧ (∀ x, (D.u8 x).toU8 = x) ∧
    (∀ (f : Nat × D → List D) (a : Nat × D) (l : List (Nat × D)), (a :: l).flatMap f = f a ++ l.flatMap f) ∧ (∀ (f : Nat × D → List D), ([] : List (Nat × D)).flatMap f = []) ∧ (∀ (x : D) (l : List D), (x :: l).map D.toU8 = x.toU8 :: l.map D.toU8) ∧ (([] : List D).map D.toU8 = []) :=
  ⟨fun _ => rfl, fun _ => rfl, fun _ => rfl, fun _ => rfl, fun _ => rfl, fun _ _ => rfl, fun _ => rfl, fun _ _ _ _ => rfl, fun _ _ _ => rfl, fun _ => rfl, rfl, rfl, fun _ => rfl, fun _ _ _ => List.flatMap_cons, fun _ => rfl, fun _ _ => rfl, rfl⟩
theorem nmL_ownb (l : List (List UInt8)) : nmL (l.map D.ownb) = [] := nmL_map D.ownb (fun _ => rfl) l
theorem nmL_rob (l : List (List UInt8)) : nmL (l.map D.rob) = [] := nmL_map D.rob (fun _ => rfl) l
theorem fr0_ownb (l : List (List UInt8)) : (l.map D.ownb).all D.fr0 = true := by rw [List.all_map]; exact List.all_eq_true.2 fun _ _ => rfl
theorem frz_ownb (l : List (List UInt8)) : (l.map D.ownb).map frz = l.map D.rob := by rw [List.map_map]; rfl
theorem sc_rob (l : List (List UInt8)) (n m : Nat) : (((l.map D.rob).drop m).take n).all D.sc = true := by
  refine List.all_eq_true.2 fun x hx => ?_
  obtain ⟨y, _, rfl⟩ := List.mem_map.1 (List.mem_of_mem_drop (List.mem_of_mem_take hx))
  rfl
theorem fr0_rob (l : List (List UInt8)) : (l.map D.rob).all D.fr0 = true := by rw [List.all_map]; exact List.all_eq_true.2 fun _ _ => rfl
/-- Rows of bytes, the last one of which is one's own. -/
def cz (R : List (List UInt8)) (x : List UInt8) : List D := R.map D.rob ++ [D.ownb x]
theorem cz_len (R : List (List UInt8)) (x : List UInt8) : (cz R x).length = R.length + 1 := by simp [cz]
theorem fr0_cz (R : List (List UInt8)) (x : List UInt8) : (cz R x).all D.fr0 = true := by
  unfold cz
  rw [List.all_append, fr0_rob]
  rfl
theorem nmL_cz (R : List (List UInt8)) (x : List UInt8) : nmL (cz R x) = [] := by
  unfold cz
  rw [nmL_append, nmL_rob]
  rfl
theorem frz_cz (R : List (List UInt8)) (x : List UInt8) : (cz R x).map frz = (R ++ [x]).map D.rob := by
  unfold cz
  rw [List.map_append, List.map_append, List.map_map]
  rfl
theorem cz_last (R : List (List UInt8)) (x : List UInt8) : (cz R x)[R.length]? = some (.ownb x) := by
  unfold cz
  rw [List.getElem?_append_right (by simp)]
  simp
theorem cz_set (R : List (List UInt8)) (x : List UInt8) (d : D) : (cz R x).set R.length d = R.map D.rob ++ [d] := by
  unfold cz
  rw [List.set_append_right _ _ (by simp)]
  simp
theorem cat_get (R : List (List UInt8)) (d : D) : (R.map D.rob ++ [d]).getD R.length .bot = d := by
  rw [List.getD_eq_getElem?_getD, List.getElem?_append_right (by simp)]
  simp
theorem cat_last (R : List (List UInt8)) (d : D) : (R.map D.rob ++ [d])[R.length]? = some d := by
  rw [List.getElem?_append_right (by simp)]
  simp
theorem cat_set (R : List (List UInt8)) (d e : D) : (R.map D.rob ++ [d]).set R.length e = R.map D.rob ++ [e] := by
  rw [List.set_append_right _ _ (by simp)]
  simp
theorem sc_str (l : List (List UInt8)) (n m : Nat) : (((l.map D.str).drop m).take n).all D.sc = true := by
  refine List.all_eq_true.2 fun x hx => ?_
  obtain ⟨y, _, rfl⟩ := List.mem_map.1 (List.mem_of_mem_drop (List.mem_of_mem_take hx))
  rfl
theorem fr0_str (l : List (List UInt8)) : (l.map D.str).all D.fr0 = true := by rw [List.all_map]; exact List.all_eq_true.2 fun _ _ => rfl
theorem nmL_str (l : List (List UInt8)) : nmL (l.map D.str) = [] := nmL_map D.str (fun _ => rfl) l
theorem V7 : (∀ (l : List (List UInt8)) (n m : Nat), (((l.map D.str).drop m).take n).all D.sc = true) ∧ (∀ (l : List (List UInt8)) (n : Nat), ((l.map D.str).take n).all D.sc = true) ∧ (∀ l : List (List UInt8), (l.map D.str).length = l.length) ∧
    (∀ (l : List (List UInt8)) (n : Nat), (l.map D.str).take n = (l.take n).map D.str) ∧ (∀ (l : List (List UInt8)) (n : Nat), (l.map D.str).drop n = (l.drop n).map D.str) ∧ (∀ l : List (List UInt8), (l.map D.str).all D.sc = true) ∧ (∀ (l : List (List UInt8)) (x : List UInt8), l.map D.str ++ [D.str x] = (l ++ [x]).map D.str) ∧ (∀ (a : List UInt8) (l : List (List UInt8)), (a :: l).length = l.length + 1) ∧ (∀ a b : List (List UInt8), (a ++ b).length = a.length + b.length) ∧ (([] : List (List UInt8)).length = 0) :=
  ⟨sc_str, fun l n => by have := sc_str l n 0; rwa [List.drop_zero] at this, fun _ => List.length_map _, fun l n => by rw [List.map_take], fun l n => by rw [List.map_drop],
    fun l => by have := sc_str l l.length 0; rwa [List.drop_zero, List.take_of_length_le (by simp)] at this, fun l x => by rw [List.map_append]; rfl, fun _ _ => rfl, fun _ _ => by simp, rfl⟩
theorem V6 : (∀ (sl : List (Nat × D)) (hp : List (Nat × Ob)) (dk : List Nat) (t : Nat) (d : D), (⟨sl, hp, dk⟩ : St).puto (some t) d = ⟨(t, d) :: sl, hp, dk⟩) ∧ (∀ (s : St) (d : D), s.puto none d = s) ∧ (∀ s : St, s.lays [] = s) ∧ (∀ (sl : List (Nat × D)) (hp : List (Nat × Ob)) (dk : List Nat) (o : Nat) (b : Ob) (r : List (Nat × Ob)), (⟨sl, hp, dk⟩ : St).lays ((o, b) :: r) = (⟨sl, (o, b) :: hp, dk⟩ : St).lays r) ∧
    (∀ l : List (Nat × Ob), [] ++ l = l) ∧ (∀ l : List (Nat × Ob), l ++ [] = l) ∧ (∀ (a : Nat × Ob) (l m : List (Nat × Ob)), (a :: l) ++ m = a :: (l ++ m)) ∧ (∀ (l : List (List UInt8)) (n m : Nat), (((l.map D.rob).drop m).take n).all D.sc = true) ∧ (∀ (l : List (List UInt8)) (n : Nat), ((l.map D.rob).take n).all D.sc = true) ∧ (∀ l : List (List UInt8), (l.map D.rob).length = l.length) ∧
    (∀ (l : List (List UInt8)) (n : Nat), (l.map D.rob).take n = (l.take n).map D.rob) ∧ (∀ (l : List (List UInt8)) (n : Nat), (l.map D.rob).drop n = (l.drop n).map D.rob) ∧ (∀ l : List (List UInt8), l.take l.length = l) ∧ (∀ l : List (List UInt8), l.drop 0 = l) ∧ (∀ l : List (List UInt8), (l.map D.rob).all D.sc = true) ∧ (∀ l m : List (List UInt8), l.map D.rob ++ m.map D.rob = (l ++ m).map D.rob) ∧ (∀ R x, (cz R x).length = R.length + 1) :=
  ⟨fun _ _ _ _ _ => rfl, fun _ _ => rfl, fun _ => rfl, fun _ _ _ _ _ _ => rfl, fun _ => rfl, fun l => List.append_nil l, fun _ _ _ => rfl, sc_rob, fun l n => by have := sc_rob l n 0; rwa [List.drop_zero] at this, fun _ => List.length_map _, fun l n => by rw [List.map_take], fun l n => by rw [List.map_drop], fun l => List.take_length, fun _ => rfl,
    fun l => by have := sc_rob l l.length 0; rwa [List.drop_zero, List.take_of_length_le (by simp)] at this, fun l m => by rw [List.map_append], cz_len⟩
/-- Truths. -/
theorem BN : (∀ b : Bool, ((!b) = true) = (b = false)) ∧ (∀ b : Bool, ((!b) = false) = (b = true)) ∧ (∀ a b : Bool, ((a && b) = true) = (a = true ∧ b = true)) ∧ (∀ a b : Bool, ((a || b) = true) = (a = true ∨ b = true)) ∧
    (∀ a b : Bool, ((a && b) = false) = (a = false ∨ b = false)) ∧ (∀ a b : Bool, ((a || b) = false) = (a = false ∧ b = false)) ∧ (∀ (p : Prop) [Decidable p], (decide p = true) = p) ∧ (∀ (p : Prop) [Decidable p], (decide p = false) = ¬ p) ∧ (∀ (p : Prop) [Decidable p], (¬ ¬ p) = p) ∧ ((true = true) = True) ∧ ((false = false) = True) ∧ ((true = false) = False) ∧ ((false = true) = False) :=
  ⟨fun b => by simp, fun b => by simp, fun a b => by simp, fun a b => by simp, fun a b => by cases a <;> simp, fun a b => by simp, fun p _ => by simp, fun p _ => by simp, fun p _ => by simp, by simp, by simp, by simp, by simp⟩
/-- How a function is entered. -/
theorem fc_in {P : Program} {Ti : Nat → TI} {G : Nat → Option D} {f : Nat} {fn : Func} {c : Code} {ins : List D} {res : D} {outs : Option (List D)} {ts : List Nat} {s0 : St} (hti : tiOf P = Ti) (gp : ∀ g cs, G g = some cs → cs.pf0 = true)
    (hf : P.funcs[f]? = some fn) (hb : fn.body = some c) (hrs : fn.results = (ts.map ResultVar.tmp).toArray) (hl : ts.length ≤ 5) (hn : Nat.ble ins.length fn.ntmps = true) (had : ins.all D.ad1 = true) (ho : OutOk ins outs) (hi : inSt ins = s0)
    (h : ∀ C, CxOk P Ti G fn.ntmps outs C → VC C c s0 (RetQ ts res outs)) : FC P G f ins res outs := by
  subst hi
  exact fc_of hti gp hf hb hrs hl (Nat.le_of_ble_eq_true hn) had ho h
section
variable {s : St}
theorem mat_i {k : IntKind} {a b : Int} (e : a = b) : Mat s (.int k a) (.int k b) [] [] := mat_eq (by rw [e]) rfl
theorem mat_bl {a b : Bool} (e : a = b) : Mat s (.bool a) (.bool b) [] [] := mat_eq (by rw [e]) rfl
theorem mat_u8 {a b : UInt8} (e : a = b) : Mat s (.u8 a) (.u8 b) [] [] := mat_eq (by rw [e]) rfl
theorem mat_u32 {a b : UInt32} (e : a = b) : Mat s (.u32 a) (.u32 b) [] [] := mat_eq (by rw [e]) rfl
theorem mat_st {a b : List UInt8} (e : a = b) : Mat s (.str a) (.str b) [] [] := mat_eq (by rw [e]) rfl
theorem mat_ab {a b : List UInt8} (e : a = b) : Mat s (.aggb a) (.aggb b) [] [] := mat_eq (by rw [e]) rfl
theorem mat_rbe {a b : List UInt8} (e : a = b) : Mat s (.rob a) (.rob b) [] [] := mat_eq (by rw [e]) rfl
theorem mat_nrb {b : List UInt8} (e : [] = b) : Mat s .nilS (.rob b) [] [] := by subst e; exact .nil_rb
theorem mat_nos {e : Nat} {n : Nat} {cs : List D} (hn : n = 0) (h : cs = []) : Mat s .nilS (.owns e n cs) [] [] := by subst h; subst hn; exact .nil_s e
theorem mat_sls {o g len e : Nat} {cs cs' : List D} {own fro : List Nat} (ho : (s.ob o).ct = some (.cells cs)) (hg : g = (s.sh o).gen) (he : (s.sh o).esz = e) (h0 : Nat.blt 0 e = true) (hl : cs.length = len * e) (hsc : cs.all D.sc = true) (h : Mat s (.tup cs) (.tup cs') own fro) : Mat s (.sl o g 0 len) (.owns e len cs') (o :: own) fro :=
  .sl_s o g 0 len e cs cs' own fro ho hg he (by simpa [Nat.blt_eq] using h0) (by rw [← hl, List.drop_zero, List.take_length]; exact hsc) (by rw [← hl, List.drop_zero, List.take_length]; exact h)
theorem mat_slf {o g len len' e : Nat} {cs cs' : List D} (ho : (s.ob o).ct = some (.cells cs)) (hg : g = (s.sh o).gen) (he : (s.sh o).esz = e) (h0 : Nat.blt 0 e = true) (e2 : len = len') (ec : cs = cs') (hl : cs.length = len * e) (hf : cs.all D.fr0 = true) : Mat s (.sl o g 0 len) (.owns e len' cs') [o] [] := by
  subst e2; subst ec
  exact .sl_f o g len e cs ho hg he (by simpa [Nat.blt_eq] using h0) hl hf
theorem mat_nob {b : List UInt8} (e : [] = b) : Mat s .nilS (.ownb b) [] [] := by subst e; exact .nil_b
theorem mat_rb {o g off len : Nat} {l l' : List UInt8} (ho : (s.ob o).ct = some (.bytes l)) (hg : g = (s.sh o).gen) (he : (s.sh o).esz = 1) (e : (l.drop off).take len = l') : Mat s (.sl o g off len) (.rob l') [] [o] := by
  subst e; exact .sl_rb o g off len l ho hg he
theorem mat_s0 {o g len : Nat} {l l' : List UInt8} (ho : (s.ob o).ct = some (.bytes l)) (hg : g = (s.sh o).gen) (he : (s.sh o).esz = 1) (hl : len = l.length) (e : l = l') : Mat s (.sl o g 0 len) (.ownb l') [o] [] := by
  refine mat_sl ho hg he ?_
  rw [List.drop_zero, hl, List.take_length, e]
theorem mat_r0 {o g len : Nat} {l l' : List UInt8} (ho : (s.ob o).ct = some (.bytes l)) (hg : g = (s.sh o).gen) (he : (s.sh o).esz = 1) (hl : len = l.length) (e : l = l') : Mat s (.sl o g 0 len) (.rob l') [] [o] := by
  refine mat_rb ho hg he ?_
  rw [List.drop_zero, hl, List.take_length, e]
theorem mat_pf {o g : Nat} {cs cs' : List D} (ho : (s.ob o).ct = some (.cells cs)) (hg : g = (s.sh o).gen) (hf : cs.all D.fr0 = true) (h0 : Nat.blt 0 cs.length = true) (e : cs = cs') : Mat s (.ptr o g 0) (.ownp cs') [o] [] := by
  subst e; exact .ptr_f o g cs ho hg hf (by simpa [Nat.blt_eq] using h0)
end
theorem fn_n {ts : List Nat} {res : D} {outs : Option (List D)} {s : St} (h : Fin ts res outs s) : RetQ ts res outs .normal s := ⟨.inl rfl, h⟩
theorem fn_r {ts : List Nat} {res : D} {outs : Option (List D)} {s : St} (h : Fin ts res outs s) : RetQ ts res outs .ret s := ⟨.inr rfl, h⟩
/-- Rows of bytes, of strings, are given to the readers. -/
theorem kgiver {C : Ctx} {sl : List (Nat × D)} {hp : List (Nat × Ob)} {dk : List Nat} (t o : Nat) {sh : Sh} {ps : List (List UInt8)} {g len : Nat} (ho : (⟨sl, hp, dk⟩ : St).ob o = ⟨sh, some (.cells (ps.map D.rob))⟩) (he : frc (look .bot sl t) = some (.sl o g 0 len)) (hg : g = sh.gen) (he1 : sh.esz = 1) (hl : ps.length = len) :
    Wk C ⟨sl, hp, dk⟩ ⟨(t, .rof 1 len (fun i _ => .rob (ps.getD i []))) :: sl, (o, ⟨sh, none⟩) :: hp, dk⟩ :=
  kgivef t o (fun i _ => .rob (ps.getD i [])) ho he hg he1 (by simpa using hl) (fun i hi => ⟨by rw [List.getElem?_map, List.getElem?_eq_getElem (by omega), List.getD_eq_getElem?_getD, List.getElem?_eq_getElem (by omega)]; rfl, rfl⟩)
    (by rw [List.all_map]; exact List.all_eq_true.2 fun _ _ => rfl) (by rw [List.all_map]; exact List.all_eq_true.2 fun _ _ => rfl)
theorem kgivest {C : Ctx} {sl : List (Nat × D)} {hp : List (Nat × Ob)} {dk : List Nat} (t o : Nat) {sh : Sh} {ps : List (List UInt8)} {g len : Nat} (ho : (⟨sl, hp, dk⟩ : St).ob o = ⟨sh, some (.cells (ps.map D.str))⟩) (he : frc (look .bot sl t) = some (.sl o g 0 len)) (hg : g = sh.gen) (he1 : sh.esz = 1) (hl : ps.length = len) :
    Wk C ⟨sl, hp, dk⟩ ⟨(t, .rof 1 len (fun i _ => .str (ps.getD i []))) :: sl, (o, ⟨sh, none⟩) :: hp, dk⟩ :=
  kgivef t o (fun i _ => .str (ps.getD i [])) ho he hg he1 (by simpa using hl) (fun i hi => ⟨by rw [List.getElem?_map, List.getElem?_eq_getElem (by omega), List.getD_eq_getElem?_getD, List.getElem?_eq_getElem (by omega)]; rfl, rfl⟩)
    (by rw [List.all_map]; exact List.all_eq_true.2 fun _ _ => rfl) (by rw [List.all_map]; exact List.all_eq_true.2 fun _ _ => rfl)
end Go.Proofs.Ytpmbdppppnbmnaa
