/- The contract of bytes.Clone. -/
import Derived.Test.YtpmbdppppnbmnaaChecked
import Derived.Test.YtpmbdppppnbmnaaOpn
import Derived.BigQuiet
import Derived.Deep.QuietTactic
import Derived.Deep.RegionHeld3
import Derived.Deep.DeepFit
namespace Go.Proofs.Ytpmbdppppnbmnaa
open Go Go.RowKit
set_option linter.unusedVariables false
attribute [local go_sem] Lib.run_eql_slice_nil

theorem bt : ByteTy Try.prog 27 5 := ⟨Try.underlying27, Try.underlying5, by kernel_rfl⟩
/-- It returns bytes of its own, and nothing that was there has turned. -/
def RetB (w : World) (l : List UInt8) (e : Ending) (w' : World) : Prop :=
  ∃ A n cap, e = .returned (.slice A n cap) ∧ Own w' w.heap.size 5 A n cap l ∧ Below w.heap.size w w'
theorem clone_any {B : Nat} (A : Option Addr) (n cap : Nat) (l : List UInt8) (w : World) (rd : Rd w B A n cap l) (hn : n ≤ 140737488355328) :
    Calls Try.prog 25 #[.slice A n cap] w (RetB w l) := by
  have hown := Own.lit (E := 5) w (Nat.le_refl _) [] (by simp [maxLen]) #[] rfl w.heap.size 0 rfl rfl
  go_enter Try.func25, Try.ntmps25
  go_wp2_with (at_builtin; refine wpList_append_bytes _ rfl (.tmp 5) (.tmp 6) bt rfl w.heap.size _ _ _ _ rfl hown _ _ _ _ rfl (rd.alloc _) (by omega) (by simp) ?_; intro A' c' w1 own1 hg1 hb1)
  · go_ret
    have : n = 0 := by
      rcases Nat.eq_zero_or_pos n with h0 | h0
      · exact h0
      · obtain ⟨_, _, h, _⟩ := rd.cells h0
        subst h
        contradiction
    subst this
    have hl : l = [] := List.eq_nil_of_length_eq_zero rd.len
    subst hl
    exact ⟨none, 0, 0, rfl, Own.nil_ _ _ _, Below.refl _ _⟩
  · go_ret
    rw [Nat.zero_add] at own1
    exact ⟨A', n, c', rfl, own1, ((Below.refl _ _).alloc (Nat.le_refl _) _).grown hg1 (by simp) (by simp [blk])⟩
theorem own_nv {w : World} {B : Nat} {E : TypeId} {A : Option Addr} {n cap : Nat} {l : List UInt8} (h : Own w B E A n cap l) (S : Nat → Prop) : ∃ F, NV w S (.ownb l) (.slice A n cap) F ∧ F.Nodup ∧ ∀ b ∈ F, B ≤ b ∧ b < w.heap.size := by
  obtain ⟨h1, h2, h3, h4⟩ := h
  rw [u8s_length, Nat.mul_one] at h1
  rcases h4 with ⟨rfl, rfl⟩ | ⟨g, cur, fz, rfl, k1, k2, k3, k4, k5⟩
  · obtain rfl : n = 0 := by omega
    exact ⟨[], .ownb l _ _ _ [] #[] 0 h1 ⟨Nat.le_refl _, h3, .inl ⟨rfl, rfl, rfl⟩⟩ (fun i hi => absurd hi (by omega)), by simp, by simp⟩
  · refine ⟨[g], .ownb l _ _ _ [g] cur 0 h1 ⟨h2, h3, .inr ⟨g, E, fz, rfl, rfl, k2, k3, by omega⟩⟩ (fun i hi => ?_), by simp, fun b hb => ?_⟩
    · rw [Nat.zero_add]
      have : (cur.toList.take (n * 1))[i]? = some (u8 (gb l i)) := by
        rw [k5, u8s_get, gb_of (show i < l.length by omega)]
        rfl
      rw [List.getElem?_take, if_pos (by omega), Array.getElem?_toList] at this
      exact this
    · obtain rfl : b = g := by simpa using hb
      exact ⟨k1, (Array.getElem?_eq_some_iff.1 k2).1⟩
theorem clone_fc (G : Nat → Option D) (l : List UInt8) (hl : l.length ≤ 140737488355328) : FC Try.prog G 25 [.rob l] (.ownb l) none := by
  intro w S vs Fs hS hG h1 h2 h3 h4 h5
  rcases vs with _ | ⟨v, _ | ⟨v2, vs⟩⟩
  · simp at h1
  · rcases Fs with _ | ⟨F, _ | ⟨F2, Fs⟩⟩
    · simp at h2
    · have hv := h3 0 _ v F rfl rfl rfl
      cases hv with
      | rob _ A n cap h =>
        refine (clone_any A n cap l w (h.rd fun b hb => hS.lt hb) (by rw [← h.len]; exact hl)).mono ?_
        rintro e w' ⟨A', n', cap', rfl, hown, hb⟩
        obtain ⟨F, k1, k2, k3⟩ := own_nv hown S
        refine ⟨_, F, [], S, rfl, hb.os, hb.tape, hb.output, hb.size, Szs.same fun b hb' => hb.block b hb', fun b hb' _ => hb.block b hb', fun _ h => h, fun b hb' => ⟨Nat.lt_of_lt_of_le (hS.lt hb') hb.size, .inl hb'⟩, hS.same fun b hb' => hb.block b (hS.lt hb'), k1, rfl, by simpa using k2, fun b hb' => ?_⟩
        obtain ⟨q1, q2⟩ := k3 b (by simpa using hb')
        exact ⟨fun hSb => by have := hS.lt hSb; omega, q2, .inl q1⟩
    · simp at h2
  · simp at h1
end Go.Proofs.Ytpmbdppppnbmnaa
