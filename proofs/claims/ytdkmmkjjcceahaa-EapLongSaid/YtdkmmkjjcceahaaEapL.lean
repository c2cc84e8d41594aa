import Derived.Test.YtdkmmkjjcceahaaEapG
namespace Go.Proofs.Ytdkmmkjjcceahaa
open Go.RowKit
set_option linter.unusedVariables false
set_option linter.unusedSimpArgs false
attribute [local go_sem ↓] run_slice_l' run_slice_lh' run_slice_h' run_index_str run_slice_str_l run_slice_str_h run_slice_str_lh
attribute [local go_sem] str_size str_append str_toL Lib.run_eql_slice_nil
theorem long_any (n code : Int) (w : World)  :
    Calls Try.prog 4 #[.int .i64 n, .int .i64 code] w fun e w' => e = .returned (.bool true) ∧ Below w.heap.size w w' := by
  have hU0 : 0 ≤ IntKind.u64.wrap n := by simp [IntKind.wrap, IntKind.bits, IntKind.signed]; omega
  have hV0 : 0 ≤ IntKind.u64.wrap code := by simp [IntKind.wrap, IntKind.bits, IntKind.signed]; omega
  obtain ⟨U, hU⟩ : ∃ U, IntKind.u64.wrap n = U := ⟨_, rfl⟩
  obtain ⟨V, hV⟩ : ∃ V, IntKind.u64.wrap code = V := ⟨_, rfl⟩
  rw [hU] at hU0
  rw [hV] at hV0
  obtain ⟨N, hN⟩ : ∃ N : Nat, 4085 + U % 10 = (N : Int) := ⟨(4085 + U % 10).toNat, by omega⟩
  have hN1 : (4085 : Int) ≤ (N : Int) := by omega
  have hN2 : (N : Int) ≤ 4094 := by omega
  obtain ⟨c, hc⟩ : ∃ c, 1 + V % 2 = c := ⟨_, rfl⟩
  have hc1 : 1 ≤ c := by omega
  have hc2 : c ≤ 2 := by omega
  go_enter Try.func4, Try.ntmps4
  go_wp2_with (at_make; refine wpList_make_bytes _ rfl (.tmp 20) (.tmp 20) bt rfl .i64 .i64 _ N rfl (by omega) rfl rfl ?_; intro w1 own hb hz)
  have hb1 := hid hb
  have own1 := hid own
  by_cases hle : N ≤ 4091
  · refine (write_yes c 0 13 _ N N (List.replicate N 0) _ own.rd ?_).mono ?_
    · rw [psize_ne]; omega
    rintro e w2 ⟨A2, n2, cap2, rfl, own2, hb2⟩
    have hn2 : n2 = N + 5 := by
      rw [← own2.len, pbytes, if_pos ⟨hc1, hc2⟩]
      simp [longBytes]
    subst hn2
    have hb2' := hid (hb1.out.trans (hb2.mono (by omega)))
    have hleI : (N : Int) ≤ 4091 := by omega
    clear hb2 hb own own2 hU hV hN hc hz
    go_wp2_with fail
    refine (eaps_any _).mono ?_
    rintro e w3 ⟨rfl, hb3⟩
    have hb3' := hid (hb2'.out.trans (hb3.mono (by have := hb2'.out.size; omega)))
    clear hb3
    go_wp2_with fail
    go_ret
    exact ⟨rfl, hb3'.out⟩
  · have hz0 : psize c 0 13 N = 0 := by
      have h := psize_ne c 0 13 N
      by_cases h0 : psize c 0 13 N = 0
      · exact h0
      · have := h.1 h0; omega
    refine (write_no c 0 13 _ N N _ (by omega) hz0).mono ?_
    rintro e w2 ⟨rfl, hb2⟩
    have hb2' := hid (hb1.out.trans (hb2.mono (by omega)))
    have hleI : 4091 < (N : Int) := by omega
    clear hb2 hb own hU hV hN hc hz hz0
    go_wp2_with fail
    refine (eaps_any _).mono ?_
    rintro e w3 ⟨rfl, hb3⟩
    have hb3' := hid (hb2'.out.trans (hb3.mono (by have := hb2'.out.size; omega)))
    clear hb3
    go_wp2_with fail
    go_ret
    exact ⟨by simp; omega, hb3'.out⟩
end Go.Proofs.Ytdkmmkjjcceahaa
