/- The contracts of bytes.Clone, eap.within, eap.size and eap.Write: for every packet what they answer. No condition but that a slice is no longer than memory bears. -/
import Derived.Test.YtdkmmkjjcceahaaChecked
import Derived.Test.YtdkmmkjjcceahaaBase
import Derived.BigQuiet
import Derived.Deep.QuietTactic
import Derived.Deep.RegionHeld3
import Derived.Deep.DeepFit
namespace Go.Proofs.Ytdkmmkjjcceahaa
open Go.RowKit
set_option linter.unusedVariables false
attribute [local go_sem] Lib.run_eql_slice_nil

theorem bt : ByteTy Try.prog 24 5 := ⟨Try.underlying24, Try.underlying5, by kernel_rfl⟩

/-- It returns bytes of its own, and nothing that was there has turned. -/
def RetB (w : World) (l : List UInt8) (e : Ending) (w' : World) : Prop :=
  ∃ A n cap, e = .returned (.slice A n cap) ∧ Own w' w.heap.size 5 A n cap l ∧ Below w.heap.size w w'

theorem clone_any {B : Nat} (A : Option Addr) (n cap : Nat) (l : List UInt8) (w : World) (rd : Rd w B A n cap l) (hn : n ≤ 140737488355328) :
    Calls Try.prog 17 #[.slice A n cap] w (RetB w l) := by
  have hown := Own.lit (E := 5) w (Nat.le_refl _) [] (by simp [maxLen]) #[] rfl w.heap.size 0 rfl rfl
  go_enter Try.func17, Try.ntmps17
  go_wp2_with (at_builtin; refine wpList_append_bytes _ rfl (.tmp 5) (.tmp 6) bt rfl w.heap.size _ _ _ _ rfl hown _ _ _ _ rfl (rd.alloc _) (by omega) (by simp) ?_; intro A' c' w1 own1 hg1 hb1)
  · go_ret
    have : n = 0 := by
      rcases Nat.eq_zero_or_pos n with h0 | h0
      · exact h0
      · obtain ⟨_, _, h, _⟩ := rd.cells h0
        subst h
        contradiction
    subst this
    have hl : l = [] := List.eq_nil_of_length_eq_zero rd.len
    subst hl
    exact ⟨none, 0, 0, rfl, Own.nil_ _ _ _, Below.refl _ _⟩
  · go_ret
    rw [Nat.zero_add] at own1
    exact ⟨A', n, c', rfl, own1, ((Below.refl _ _).alloc (Nat.le_refl _) _).grown hg1 (by simp) (by simp [blk])⟩

/-- How many bytes a packet has; 0: not in form. -/
def psize (c i t : Int) (n : Nat) : Int :=
  if 0 ≤ i ∧ i ≤ 255 then
    if c = 1 ∨ c = 2 then if 1 ≤ t ∧ t ≤ 255 ∧ n ≤ 4091 then 5 + n else 0
    else if (c = 3 ∨ c = 4) ∧ t = 0 ∧ n = 0 then 4
    else 0
  else 0

set_option maxHeartbeats 400000 in
theorem size_any (c i t : Int) (A : Option Addr) (n cap : Nat) (hn : n ≤ 140737488355328) (w : World) :
    Calls Try.prog 15 #[.agg #[.int .i64 c, .int .i64 i, .int .i64 t, .slice A n cap]] w fun e w' => e = .returned (.int .i64 (psize c i t n)) ∧ Below w.heap.size w w' := by
  go_enter Try.func15, Try.ntmps15
  go_wp2
  all_goals (go_ret; refine ⟨?_, (Below.refl _ _).alloc (Nat.le_refl _) _⟩; congr 2; simp only [beq_iff_eq, beq_eq_false_iff_ne, Bool.not_eq_true', Bool.not_eq_false', decide_eq_true_eq, decide_eq_false_iff_not, ne_eq] at *)
  all_goals (simp [psize, *] <;> omega)

/-- The bytes of a packet of Code 1 or 2. -/
def longBytes (c i t : Int) (n : Nat) (l : List UInt8) : List UInt8 := [b8 c, b8 i, b8 ((5 + n) / 256), b8 ((5 + n) % 256)] ++ [b8 t] ++ l

/-- It returns bytes of its own, and no error. -/
def RetBOk (w : World) (l : List UInt8) (e : Ending) (w' : World) : Prop :=
  ∃ A n cap, e = .returned (.tuple #[.slice A n cap, .int .i64 0]) ∧ Own w' w.heap.size 5 A n cap l ∧ Below w.heap.size w w'

set_option maxHeartbeats 1000000 in
theorem write_long {B : Nat} (c i t : Int) (A : Option Addr) (n cap : Nat) (l : List UInt8) (w : World) (rd : Rd w B A n cap l) (hc : 1 ≤ c) (hc2 : c ≤ 2) (hi : 0 ≤ i) (hi2 : i ≤ 255) (ht : 1 ≤ t) (ht2 : t ≤ 255) (hn : n ≤ 4091) :
    Calls Try.prog 9 #[.agg #[.int .i64 c, .int .i64 i, .int .i64 t, .slice A n cap]] w (RetBOk w (longBytes c i t n l)) := by
  have hs : psize c i t n = 5 + n := by unfold psize; rw [if_pos ⟨hi, hi2⟩, if_pos (by omega), if_pos ⟨ht, ht2, hn⟩]
  go_enter Try.func9, Try.ntmps9
  go_wp2_with fail
  refine (size_any _ _ _ _ _ _ (by omega) _).mono ?_
  rintro e w1 ⟨rfl, hb⟩
  rw [hs]
  clear hs
  have hc1 : ∀ o, w1.cell? ⟨w.heap.size, o, none⟩ = #[Value.int .i64 c, .int .i64 i, .int .i64 t, .slice A n cap][o]? := fun o => by
    rw [hb.cell (p := ⟨w.heap.size, o, none⟩) (by simp)]; simp
  have hz1 : w.heap.size < w1.heap.size := by have := hb.size; simp at this; omega
  have rd1 : Rd w1 B A n cap l := (rd.alloc _).ext hb
  have hB := rd.bd
  have hb1 : Below w.heap.size w w1 := ((Below.refl _ _).alloc (Nat.le_refl _) _).trans (hb.mono (by simp))
  have hb1s := hid hb1
  clear hb hb1
  go_wp2_with fail
  have own0 := Own.lit (E := 5) w1 (Nat.le_refl _) [b8 c, b8 i, b8 ((5 + n) / 256), b8 ((5 + n) % 256)] (by simp [maxLen]) #[Value.int IntKind.u8 c, Value.int IntKind.u8 i, Value.int IntKind.u8 ((5 + ↑n) / 256), Value.int IntKind.u8 ((5 + ↑n) % 256)]
    (by simp only [u8s, List.map]; rw [u8_b8 (x := c) (by omega) (by omega), u8_b8 (x := i) (by omega) (by omega), u8_b8 (x := (5 + n) / 256) (by omega) (by omega), u8_b8 (x := (5 + n) % 256) (by omega) (by omega)]) w1.heap.size 4 rfl rfl
  obtain ⟨W, hW⟩ : ∃ W, W = w1.alloc (Obj.cells #[Value.int IntKind.u8 c, Value.int IntKind.u8 i, Value.int IntKind.u8 ((5 + ↑n) / 256), Value.int IntKind.u8 ((5 + ↑n) % 256)] 5) := ⟨_, rfl⟩
  have hWs : W.heap.size = w1.heap.size + 1 := by rw [hW]; simp
  have hWc : ∀ b o, b < w1.heap.size → W.cell? ⟨b, o, none⟩ = w1.cell? ⟨b, o, none⟩ := fun b o h => by rw [hW]; exact World.cell?_alloc_lt w1 _ ⟨b, o, none⟩ h
  have hWb : Below w1.heap.size w1 W := by rw [hW]; exact (Below.refl _ _).alloc (Nat.le_refl _) _
  rw [← hW] at own0 ⊢
  have rdW : Rd W B A n cap l := rd1.ext hWb
  have hWss := hid hWs
  clear hW hWs
  go_region_held3 (fun w' => Below w1.heap.size W w' ∧ (∀ b o, b < w1.heap.size → w'.cell? ⟨b, o, none⟩ = W.cell? ⟨b, o, none⟩))
    (first
      | ((refine keepS ?_; (repeat (first | assumption | exact Below.refl _ _ | refine Below.drew ?_ | refine Below.alloc ?_ (by have := hWss.out; simp; omega) _)); done))
      | (exact keepS (Below.grown (And.left (by assumption)) hg2 (by have := hWss.out; simp; omega) (by simp [blk])))
      | (exact keepS (Below.grown (And.left (by assumption)) hg3 (by have h1 := hg2.size; have h2 := hWss.out; simp at h1; omega) (fun k hk => (own2.lt k hk).1))))
    (first
      | (refine step_append_bytes _ (by rfl) (.tmp 24) (.tmp 28) bt (by rfl) w1.heap.size _ _ _ _ (by rfl) (by exact own0.alloc _) _ _ _ [b8 t] (by rfl) (Rd.one (by simp [u8_wrap])) (by omega) (by have := hWss.out; simp; omega) ?_; intro A2 c2 w2 own2 hg2 hb2)
      | (refine step_append_bytes _ (by rfl) (.tmp 29) (.tmp 31) bt (by rfl) w1.heap.size _ _ _ _ (by rfl) own2 _ _ _ l (by rfl) (Rd.below rdW (And.left (by assumption)) (by omega)) (by omega) (by have h1 := hg2.size; have h2 := hWss.out; simp at h1; omega) ?_; intro A3 c3 w3 own3 hg3 hb3))
  have hbF : Below w1.heap.size W w3 := And.left (by assumption)
  go_wp2_with fail
  go_ret2
  refine ⟨A3, _, c3, rfl, ?_, (hb1s.out.trans (hWb.mono (by omega))).trans (hbF.mono (by omega))⟩
  exact own3.lower (by omega)

end Go.Proofs.Ytdkmmkjjcceahaa
