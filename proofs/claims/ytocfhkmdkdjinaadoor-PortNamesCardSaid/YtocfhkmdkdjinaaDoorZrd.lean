/- What the claim leans on, text Zrd: Del, DelF, Rof. No condition beyond what each lemma states. -/
import Derived.Test.YtocfhkmdkdjinaaDoorChecked
import Derived.Test.YtocfhkmdkdjinaaDoorZrc
import Derived.Shelf.Lays2
import Derived.Shelf.RegionOpenPlain
import Derived.WalkKit
import Derived.Deep.LoopGhost
import Derived.Deep.RegionLaw
import Derived.Lib.Walk
import Derived.Sort.WalkB12
import Derived.Lib.SliceRun

/- slices.Delete of one attribute: the walk. -/
namespace Go.Proofs.YtocfhkmdkdjinaaDoor
open Go Go.RowKit
set_option linter.unusedVariables false
set_option linter.unusedSimpArgs false

theorem run_clear1 {P : Program} {T E ty : TypeId} {z : Value} {s by_ : Nat} (bt : SlTy P T E z s by_) (h1 : ∀ u ∈ z.cells.toList, u.oneCell' = true) (w : World) (b o c : Nat) (E' : TypeId) (fz : Nat × Nat) (cur : Array Value) (hb : w.heap[b]? = some (.cells cur E' fz)) (hl : Loose fz cur.size) (ho : o + s ≤ cur.size) :
    (Builtin.clear_ #[T] ty #[.slice (some ⟨b, o, none⟩) 1 c]).run P w = .ok (.tuple #[]) (w.setRow b (cur.toList.take o ++ z.cells.toList ++ cur.toList.drop (o + s)).toArray) := by
  obtain ⟨i, hi, hz0, hz1, hz2⟩ := info_parts bt.info
  have hs := bt.zs
  have hzc : (Builtin.zeroCells z.cells 1).toList = z.cells.toList := by
    apply List.ext_getElem
    · simp [Builtin.zeroCells]
    · intro k h1 h2
      simp [Builtin.zeroCells] at h1 ⊢
      rw [Nat.mod_eq_of_lt (by omega), getElem!_pos _ _ (by omega)]
  have hst := run_storeCells_loose P b o E' fz z.cells.toList 0 cur w hb hl (by simp; omega) h1
  simp only [Nat.add_zero, Array.length_toList, hs] at hst
  simp [Builtin.clear_, run_underlying bt.sl, zeroValue, typeInfo, hi, hz0, hzc, hst]

theorem btA : SlTy Tryd.prog 33 32 (.agg #[.int .i64 0, .slice none 0 0]) 2 32 := ⟨Tryd.underlying33, by kernel_rfl, rfl, by decide⟩
/-- Cells stored one behind the other in a row that is known. -/
theorem setCells_row (P : Program) (w : World) (b o : Nat) (vs : List Value) (E : TypeId) (fz : Nat × Nat) (cur : Array Value) (hb : w.heap[b]? = some (.cells cur E fz)) (hl : Loose fz cur.size) (ho : o + vs.length ≤ cur.size) (h1 : ∀ u ∈ vs, u.oneCell' = true)
    (h2 : ∀ j, j < vs.length → (w.cell? ⟨b, o + 0 + j, none⟩).isSome = true) (h3 : ∀ j, j < vs.length → w.frozen? ⟨b, o + 0 + j, none⟩ = false) : w.setCells b o vs = w.setRow b (cur.toList.take o ++ vs ++ cur.toList.drop (o + vs.length)).toArray := by
  have e1 := run_storeCells_cells (P := P) b o vs 0 w h2 h3 h1
  have e2 := run_storeCells_loose P b o E fz vs 0 cur w hb hl (by omega) h1
  rw [e1] at e2
  simpa using e2
set_option maxHeartbeats 4000000 in
set_option maxRecDepth 1000000 in
theorem del_any (b off n cap i j : Nat) (hij : j = i + 1) (cur : Array Value) (E : TypeId) (fz : Nat × Nat) (w : World) (hb : w.heap[b]? = some (.cells cur E fz)) (hl : Loose fz cur.size) (hsz : off + cap * 2 ≤ cur.size) (hn : n ≤ cap) (hm : cap ≤ 9223372036854775807) (hi : i < n) (h1 : ∀ t u, t < n * 2 → cur[off + t]? = some u → u.oneCell' = true) :
    Calls Tryd.prog 109 #[.slice (some ⟨b, off, none⟩) n cap, .int .i64 i, .int .i64 j] w fun e w' => e = .returned (.slice (some ⟨b, off, none⟩) (n - 1) cap) ∧ ∃ q row, w' = (w.drewN q).setRow b row ∧ row.size = cur.size ∧ ∀ t, t < (n - 1) * 2 → row[off + t]? = if t < i * 2 then cur[off + t]? else cur[off + t + 2]? := by
  obtain ⟨news, hnews⟩ : ∃ news, news = (cur.toList.drop (off + j * 2)).take ((n - j) * 2) := ⟨_, rfl⟩
  have hlen : news.length = (n - j) * 2 := by rw [hnews]; simp; omega
  have hget : ∀ t, t < (n - j) * 2 → news[t]? = cur[off + j * 2 + t]? := by
    intro t ht
    rw [hnews, List.getElem?_take, if_pos ht, List.getElem?_drop, Array.getElem?_toList]
  have hb' : w.drew.heap[b]? = some (.cells cur E fz) := hb
  have hcell : ∀ x, w.drew.cell? ⟨b, x, none⟩ = cur[x]? := fun x => by simp [World.cell?, hb']
  have hfro : ∀ x, x < cur.size → w.drew.frozen? ⟨b, x, none⟩ = false := fun x hx => Loose.free hb' hl hx
  obtain ⟨A, hA, hsrc⟩ : ∃ A : Addr, (if cap = j then some (⟨b, off, none⟩ : Addr) else some ⟨b, off + j * 2, none⟩) = some A ∧ Hid (∀ t u, news[t]? = some u → w.drew.cell? (A.add t) = some u) := by
    by_cases h : cap = j
    · refine ⟨⟨b, off, none⟩, by simp [h], fun t u hu => ?_⟩
      have h0 : news.length = 0 := by rw [hlen]; omega
      rw [List.length_eq_zero_iff.1 h0] at hu
      simp at hu
    · refine ⟨⟨b, off + j * 2, none⟩, by simp [h], fun t u hu => ?_⟩
      have ht : t < (n - j) * 2 := by
        have := (List.getElem?_eq_some_iff.1 hu).1
        rwa [hlen] at this
      rw [hget t ht] at hu
      rw [Addr.add_lit, hcell]
      exact hu
  have s1 : Hid (news.length = (n - j) * 2) := hlen
  have s2 : Hid (∀ u ∈ news, u.oneCell' = true) := by
    intro u hu
    obtain ⟨t, ht, hx⟩ := List.getElem_of_mem hu
    have h2 : news[t]? = some u := by rw [List.getElem?_eq_getElem ht, hx]
    rw [hget t (by omega)] at h2
    exact h1 (j * 2 + t) u (by omega) (by rw [← Nat.add_assoc]; exact h2)
  have s3 : Hid (∀ t, t < news.length → (w.drew.cell? ⟨b, off + i * 2 + t, none⟩).isSome = true ∧ w.drew.frozen? ⟨b, off + i * 2 + t, none⟩ = false) := by
    intro t ht
    rw [hlen] at ht
    refine ⟨?_, hfro _ (by omega)⟩
    rw [hcell, Array.getElem?_eq_getElem (by omega)]
    rfl
  obtain ⟨W1, hW1⟩ : ∃ W1, W1 = w.drew.setCells b (off + i * 2) news := ⟨_, rfl⟩
  obtain ⟨row1, hrow1⟩ : ∃ row1, row1 = (cur.toList.take (off + i * 2) ++ news ++ cur.toList.drop (off + i * 2 + news.length)).toArray := ⟨_, rfl⟩
  have hsz1 : row1.size = cur.size := by rw [hrow1]; simp; omega
  have hW1' : W1 = w.drew.setRow b row1 := by
    rw [hW1, hrow1]
    exact setCells_row Tryd.prog w.drew b (off + i * 2) news E fz cur hb' hl (by omega) s2 (fun j hj => by simpa using (s3 j hj).1) (fun j hj => by simpa using (s3 j hj).2)
  have hH1 : W1.heap[b]? = some (.cells row1 E fz) := by rw [hW1']; exact setRow_heap w.drew b cur row1 E fz hb'
  have hcl : ∀ ty, (Builtin.clear_ #[33] ty #[.slice (some ⟨b, off + (i + (n - j)) * 2, none⟩) (n - (i + (n - j))) (cap - (i + (n - j)))]).run Tryd.prog W1 = .ok (.tuple #[]) (W1.setRow b (row1.toList.take (off + (i + (n - j)) * 2) ++ [Value.int .i64 0, Value.slice none 0 0] ++ row1.toList.drop (off + (i + (n - j)) * 2 + 2)).toArray) := fun ty => by
    rw [show n - (i + (n - j)) = 1 by omega]
    exact run_clear1 btA (by intro u hu; simp [Value.cells] at hu; rcases hu with rfl | rfl <;> rfl) W1 b (off + (i + (n - j)) * 2) (cap - (i + (n - j))) E fz row1 hH1 (by rw [hsz1]; exact hl) (by rw [hsz1]; omega)
  have hW : Hid (W1 = w.drew.setCells b (off + i * 2) news) := hW1
  have X : Hid (W1 = w.drew.setRow b row1) := hW1'
  have hic : i ≤ cap := by omega
  have hjc : j ≤ cap := by omega
  have mixed : Tryd.prog.follows .mixedOrders = true := by kernel_rfl
  have t33 := Tryd.underlying33
  obtain ⟨i0, hi0, hz0, hz1, hz2⟩ := info_parts btA.info
  have hne : ¬ ((i : Int) = j) := by omega
  have hij1 : i < j := by omega
  have hjn : j ≤ n := by omega
  have hijH : Hid (j = i + 1) := hij
  have hG : Hid (∀ t, t < (n - j) * 2 → news[t]? = cur[off + j * 2 + t]?) := hget
  clear hij hW1 hW1' hH1 hget hnews hlen hcell hfro
  go_enter Tryd.func109, Tryd.ntmps109
  go_wp2_with fail
  go_region_law_o (refine step_append_room rfl (.tmp 22) (.tmp 25) 33 rfl 32 i0 2 t33 hi0 hz1 b off i cap (by simp [Act.eval, Act.put]) A (n - j) (cap - j) news (by simp [Act.eval, Act.put]) s1.out hsrc.out s2.out (by omega) s3.out ?_; rw [← hW.out])
  go_wp2
  go_ret
  have hj := hijH.out
  have hlen : news.length = (n - j) * 2 := s1.out
  refine ⟨by rw [show n - 1 = i + (n - j) by omega]; rfl, 1, _, by rw [X.out, setRow_setRow]; rfl, ?_, fun t ht => ?_⟩
  · simp only [List.size_toArray, List.length_append, List.length_cons, List.length_take, List.length_drop, Array.length_toList, hlen]
    omega
  · have hP : off + t < off + (i + (n - j)) * 2 := by omega
    have hl1 : (List.take (off + i * 2) cur.toList).length = off + i * 2 := by rw [List.length_take, Array.length_toList]; omega
    have hl2 : (List.take (off + (i + (n - j)) * 2) (List.take (off + i * 2) cur.toList ++ (news ++ List.drop (off + i * 2 + news.length) cur.toList))).length = off + (i + (n - j)) * 2 := by
      simp only [List.length_append, List.length_take, List.length_drop, Array.length_toList, hlen]
      omega
    rw [List.getElem?_toArray, List.getElem?_append_left (by omega), List.getElem?_take, if_pos hP]
    by_cases h2 : t < i * 2
    · rw [if_pos h2, List.getElem?_append_left (by omega), List.getElem?_take, if_pos (by omega), Array.getElem?_toList]
    · rw [if_neg h2, List.getElem?_append_right (by omega), hl1, List.getElem?_append_left (by omega), hG.out _ (by omega)]
      congr 1
      omega
end Go.Proofs.YtocfhkmdkdjinaaDoor

/- slices.Delete of one attribute: its contract. -/
namespace Go.Proofs.YtocfhkmdkdjinaaDoor
open Go Go.RowKit
set_option linter.unusedVariables false
set_option linter.unusedSimpArgs false
/-- The list without its i-th. -/
def cutI (L : List (Int × List UInt8)) (i : Nat) : List (Int × List UInt8) := L.take i ++ L.drop (i + 1)
theorem cutI_len (L : List (Int × List UInt8)) (i : Nat) (h : i < L.length) : (cutI L i).length = L.length - 1 := by unfold cutI; simp; omega
theorem atR_cut (L : List (Int × List UInt8)) (i : Nat) : atR (L.take i) ++ atR (L.drop i) = atR L := by rw [atR_app, List.take_append_drop]
theorem atR_get_cut (L : List (Int × List UInt8)) (i : Nat) (h : i < L.length) (t : Nat) : (atR (cutI L i))[t]? = if t < i * 2 then (atR L)[t]? else (atR L)[t + 2]? := by
  have e1 := atR_cut L i
  have e2 := atR_cut L (i + 1)
  have l1 : (atR (L.take i)).length = i * 2 := by rw [atR_len, List.length_take]; congr 1; omega
  have l2 : (atR (L.take (i + 1))).length = i * 2 + 2 := by rw [atR_len, List.length_take, show min (i + 1) L.length = i + 1 by omega]; omega
  unfold cutI
  rw [← atR_app]
  split
  · rw [List.getElem?_append_left (by omega), ← e1, List.getElem?_append_left (by omega)]
  · rw [List.getElem?_append_right (by omega), ← e2, List.getElem?_append_right (by omega), l1, l2]
    congr 1
    omega
theorem delete_fc (G : Nat → Option D) (L : List (Int × List UInt8)) (i : Nat) (hi : i < L.length) (hL : L.length ≤ 1000000) :
    FC Tryd.prog G 109 [.owns 2 L.length (atR L), .int .i64 i, .int .i64 ((i + 1 : Nat) : Int)] (.owns 2 (L.length - 1) (atR (cutI L i))) none := by
  intro w S vs Fs hS hG h1 h2 h3 h4 h5
  obtain ⟨v0, v1, v2, rfl⟩ : ∃ v0 v1 v2, vs = [v0, v1, v2] := by
    rcases vs with _ | ⟨v0, _ | ⟨v1, _ | ⟨v2, _ | ⟨v3, vs⟩⟩⟩⟩ <;> simp at h1
    exact ⟨_, _, _, rfl⟩
  obtain ⟨F0, F1, F2, rfl⟩ : ∃ v0 v1 v2, Fs = [v0, v1, v2] := by
    rcases Fs with _ | ⟨v0, _ | ⟨v1, _ | ⟨v2, _ | ⟨v3, vs⟩⟩⟩⟩ <;> simp at h2
    exact ⟨_, _, _, rfl⟩
  have a0 := h3 0 _ v0 F0 rfl rfl rfl
  have a1 := h3 1 _ v1 F1 rfl rfl rfl
  have a2 := h3 2 _ v2 F2 rfl rfl rfl
  cases a1
  cases a2
  have hpf : ∀ (t : Nat) (c : D), (atR L)[t]? = some c → c.pf0 = true := fun t c h => by
    have := at_all D.pf0 (fun a => .int .i64 a.1) (fun a => .rob a.2) (fun _ => rfl) (fun _ => rfl) L
    exact all_get (cs := atR L) this h
  generalize hcs : atR L = cs at a0 hpf
  cases a0 with
  | owns _ _ _ A cap F Fr Fs cur off hl hrow hf hF hr =>
    obtain ⟨k1, k2, ⟨k3, -⟩ | ⟨b, E, fz, rfl, rfl, kh, kl, ks⟩⟩ := hrow
    · omega
    have hnil : ∀ (t : Nat) (f : List Nat), Fs[t]? = some f → f = [] := fun t f hf' => by
      have ht : t < Fs.length := (List.getElem?_eq_some_iff.1 hf').1
      have hc := List.getElem?_eq_getElem (l := cs) (i := t) (by omega)
      have hu : t < cs.length := by omega
      have hcur := Array.getElem?_eq_getElem (xs := cur) (i := off + t) (by omega)
      exact (pf0_nv (ρ' := ρ0) (H' := H0) (hpf t _ hc) (hr t _ _ f hc hcur hf')).1
    have hfl : Fs.flatten = [] := flat_of_nil hnil
    rw [hfl, List.append_nil] at hF
    subst hF
    have hbS : ¬ S b ∧ b < w.heap.size := h5 b (by simp)
    have hread : ∀ (t : Nat) (c : D), cs[t]? = some c → ∃ u, cur[off + t]? = some u ∧ NV w S c u [] ∧ u.oneCell' = true := fun t c hc => by
      have ht : t < cs.length := (List.getElem?_eq_some_iff.1 hc).1
      have hcur := Array.getElem?_eq_getElem (xs := cur) (i := off + t) (by omega)
      have hff := List.getElem?_eq_getElem (l := Fs) (i := t) (by omega)
      have hv := hr t c _ _ hc hcur hff
      have hv2 := (pf0_nv (ρ' := ρ0) (H' := H0) (hpf t c hc) hv).2
      refine ⟨_, hcur, hv2, ?_⟩
      have hc0 := hpf t c hc
      generalize cur[off + t] = u at hv2
      cases hv2 <;> first | rfl | (simp [D.pf0] at hc0; done) | assumption
    have hoth : ∀ (q : Nat) (row : Array Value) (k : Nat), k ≠ b → ((w.drewN q).setRow b row).heap[k]? = w.heap[k]? := fun q row k hk => setRow_other (w.drewN q) b k row hk
    refine (del_any b off L.length cap i (i + 1) rfl cur E fz w kh kl ks k1 (by simpa [maxLen] using k2) hi (fun t u ht hu => ?_)).mono ?_
    · obtain ⟨u', e1, -, e3⟩ := hread t _ (List.getElem?_eq_getElem (l := cs) (i := t) (by omega))
      rw [e1] at hu
      injection hu with hu
      exact hu ▸ e3
    rintro e w' ⟨rfl, q, row, rfl, hrs, hrow⟩
    have hwb : ((w.drewN q).setRow b row).heap[b]? = some (.cells row E fz) := setRow_heap (w.drewN q) b cur row E fz kh
    have hsame : ∀ x, S x → ((w.drewN q).setRow b row).heap[x]? = w.heap[x]? := fun x hx => hoth q row x (fun e => hbS.1 (e ▸ hx))
    have hz : ((w.drewN q).setRow b row).heap.size = w.heap.size := by simp
    refine ⟨_, [b], [], S, rfl, rfl, rfl, rfl, Nat.le_of_eq hz.symm, ?_, fun x hx hn => hoth q row x (by simpa using hn), fun _ h => h, fun x hx => ⟨by rw [hz]; exact hS.lt hx, .inl hx⟩, hS.same hsame, ?_, rfl, by simp, fun x hx => ?_⟩
    · intro x c0 E0 f0 hx
      by_cases e : x = b
      · subst e
        rw [kh] at hx
        injection hx with hx
        injection hx with e1 e2 e3
        subst e1
        exact ⟨row, E, fz, hwb, hrs⟩
      · exact ⟨c0, E0, f0, (hoth q row x e).trans hx, rfl⟩
    · have hlc : (atR (cutI L i)).length = (L.length - 1) * 2 := by rw [atR_len, cutI_len L i hi]
      refine .owns 2 (L.length - 1) (atR (cutI L i)) _ cap [b] [b] (List.replicate ((L.length - 1) * 2) []) row off hlc ⟨by omega, k2, .inr ⟨b, E, fz, rfl, rfl, hwb, by rw [hrs]; exact kl, by rw [hrs]; exact ks⟩⟩ (by simp [hlc]) (by simp [flat_nil]) (fun t c u f p1 p2 p3 => ?_)
      obtain rfl : f = [] := by
        rw [List.getElem?_replicate] at p3
        split at p3
        · injection p3 with p3; exact p3.symm
        · cases p3
      have ht : t < (L.length - 1) * 2 := by rw [← hlc]; exact (List.getElem?_eq_some_iff.1 p1).1
      rw [atR_get_cut L i hi, hcs] at p1
      rw [hrow t ht] at p2
      have key : ∀ t', cs[t']? = some c → cur[off + t']? = some u → NV ((w.drewN q).setRow b row) S c u [] := fun t' z1 z2 => by
        obtain ⟨u', e1, e2, -⟩ := hread t' c z1
        rw [e1] at z2
        injection z2 with z2
        subst z2
        exact e2.mono (fun _ h => h) hsame (fun _ => ⟨Nat.le_refl _, fun _ => ⟨rfl, rfl⟩⟩) (by simp)
      split at p1
      · rename_i hlt
        rw [if_pos hlt] at p2
        exact key t p1 p2
      · rename_i hlt
        rw [if_neg hlt] at p2
        exact key (t + 2) p1 (by rw [← Nat.add_assoc]; exact p2)
    · obtain rfl : x = b := by simpa using hx
      exact ⟨hbS.1, by rw [hz]; exact hbS.2, .inr (by simp)⟩
end Go.Proofs.YtocfhkmdkdjinaaDoor

/- A row of attributes, read by place and as a list. Over any program. -/
namespace Go.Proofs.YtocfhkmdkdjinaaDoor
open Go Go.RowKit
set_option linter.unusedVariables false
set_option linter.unusedSimpArgs false
theorem rof_ros (L : List (Int × List UInt8)) : Cnv (.rof 2 L.length (fR L)) (.ros 2 L.length (atR L)) := by
  intro w S v F hr
  cases hr with
  | rof _ _ _ A cap b off us hn hm hp hA hc hr =>
    have key : ∀ (t : Nat) (c : D), (atR L)[t]? = some c → t / 2 < L.length ∧ t % 2 < 2 ∧ c = fR L (t / 2) (t % 2) ∧ t / 2 * 2 + t % 2 = t := fun t c h => by
      have ht : t < L.length * 2 := by rw [← atR_len]; exact (List.getElem?_eq_some_iff.1 h).1
      have e : t / 2 * 2 + t % 2 = t := by omega
      have := (atR_get L (t / 2) (t % 2) (by omega) (by omega)).1
      rw [e, h] at this
      injection this with this
      exact ⟨by omega, by omega, this, e⟩
    refine .ros 2 L.length (atR L) A cap b off (fun t => us (t / 2) (t % 2)) (atR_len L) hn hm hA (fun h0 t c h => ?_) (fun t c h => ?_)
    · obtain ⟨a1, a2, -, a4⟩ := key t c h
      have := hc (t / 2) (t % 2) a1 a2
      rw [a4] at this
      exact this
    · obtain ⟨a1, a2, a3, -⟩ := key t c h
      rw [a3]
      exact hr _ _ a1 a2
theorem mat_fros {s : St} {L : List (Int × List UInt8)} : Mat s (.rof 2 L.length (fR L)) (.ros 2 L.length (atR L)) [] [] := .cnv _ (.rof 2 L.length (fR L)) _ _ _ (mat_eq rfl rfl) (rof_ros L)
theorem kgiveA {C : Ctx} {sl : List (Nat × D)} {hp : List (Nat × Ob)} {dk : List Nat} (t o : Nat) (d : D) {sh : Sh} {c0 : Cont} {e : D} {own fro : List Nat} (ho : (⟨sl, hp, dk⟩ : St).ob o = ⟨sh, some c0⟩ := by exact rfl) (he : frc (look .bot sl t) = some e := by exact rfl) (hm : Mat ⟨sl, hp, dk⟩ e d own fro := by exact ma2_) (h1 : own = [] := by exact rfl) (h2 : fro = [o] := by exact rfl) (hd : d.pf = true := by exact rfl) : Wk C ⟨sl, hp, dk⟩ ⟨(t, d) :: sl, (o, ⟨sh, none⟩) :: hp, dk⟩ := by
  subst h1; subst h2
  exact kgive t o ho he hm hd
end Go.Proofs.YtocfhkmdkdjinaaDoor
