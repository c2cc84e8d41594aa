/- What the claim leans on, text Zpj: ShaC, AuD, Apf, Wc. No condition beyond what each lemma states. -/
import Derived.Test.YtocfhkmdkdjinaaDoorZe
import Derived.Test.YtocfhkmdkdjinaaDoorZpe
import Derived.Test.YtocfhkmdkdjinaaDoorZpd
import Derived.Test.YtocfhkmdkdjinaaDoorZd

/- SHA-256 reckoned by the kernel: a row of words in turn. -/
namespace Go.Proofs.YtocfhkmdkdjinaaDoor
set_option linter.unusedVariables false

/-- The schedule's words, the last one first. -/
def wL (b : List UInt8) : Nat → List UInt32
  | 0 => []
  | k + 1 => (if k < 16 then bword b (4 * k) else (wL b k).getD 15 0 + (wL b k).getD 6 0 + sig0 ((wL b k).getD 14 0) + sig1 ((wL b k).getD 1 0)) :: wL b k
theorem wL_get (b : List UInt8) : ∀ (k j : Nat), j < k → (wL b k).getD j 0 = wk b (k - 1 - j)
  | 0, j, h => absurd h (by omega)
  | k + 1, 0, h => by
    simp only [wL, List.getD_cons_zero, Nat.add_sub_cancel, Nat.sub_zero]
    split
    · rename_i hk; rw [wk_lo b hk]
    · rename_i hk
      rw [wk_hi b hk, wL_get b k 15 (by omega), wL_get b k 6 (by omega), wL_get b k 14 (by omega), wL_get b k 1 (by omega)]
      rw [show k - 1 - 15 = k - 16 by omega, show k - 1 - 6 = k - 7 by omega, show k - 1 - 14 = k - 15 by omega, show k - 1 - 1 = k - 2 by omega]
  | k + 1, j + 1, h => by
    simp only [wL, List.getD_cons_succ]
    rw [wL_get b k j (by omega)]
    congr 1
    omega
theorem wL_len (b : List UInt8) : ∀ k, (wL b k).length = k
  | 0 => rfl
  | k + 1 => by simp [wL, wL_len b k]
/-- Rounds over two rows of words. -/
def goL : List UInt32 → List UInt32 → H8 → H8
  | k :: ks, w :: ws, v => goL ks ws (rnd v k w)
  | _, _, v => v
theorem goL_st (h : H8) (b : List UInt8) : ∀ (n i : Nat) (ks ws : List UInt32), ks.length = n → ws.length = n → (∀ j, j < n → ks.getD j 0 = kat (i + j)) → (∀ j, j < n → ws.getD j 0 = wk b (i + j)) → goL ks ws (st8 h b i) = st8 h b (i + n)
  | 0, i, ks, ws, h1, h2, _, _ => by
    rw [List.eq_nil_of_length_eq_zero h1]
    rfl
  | n + 1, i, k :: ks, w :: ws, h1, h2, h3, h4 => by
    have e1 := h3 0 (by omega)
    have e2 := h4 0 (by omega)
    simp only [List.getD_cons_zero, Nat.add_zero] at e1 e2
    simp only [goL]
    rw [e1, e2]
    have := goL_st h b n (i + 1) ks ws (by simpa using h1) (by simpa using h2) (fun j hj => by have := h3 (j + 1) (by omega); simp only [List.getD_cons_succ] at this; rw [this]; congr 1; omega) (fun j hj => by have := h4 (j + 1) (by omega); simp only [List.getD_cons_succ] at this; rw [this]; congr 1; omega)
    rw [show i + (n + 1) = i + 1 + n by omega, ← this]
    rfl
def pressC (h : H8) (b : List UInt8) : H8 := add8 h (goL kt (wL b 64).reverse h)
theorem pressC_eq (h : H8) (b : List UInt8) : pressC h b = pressS h b := by
  unfold pressC pressS
  have := goL_st h b 64 0 kt (wL b 64).reverse rfl (by simp [wL_len]) (fun j hj => by simp [kat]) (fun j hj => by
    rw [List.getD_eq_getElem?_getD, List.getElem?_reverse (by rw [wL_len]; exact hj), ← List.getD_eq_getElem?_getD, wL_len, wL_get b 64 _ (by omega)]
    congr 1
    omega)
  rw [Nat.zero_add] at this
  rw [← this]
  rfl
def absC (h : H8) (l : List UInt8) : Nat → H8
  | 0 => h
  | k + 1 => pressC (absC h l k) (l.drop (64 * k))
theorem absC_eq (h : H8) (l : List UInt8) : ∀ k, absC h l k = abs8 h l k
  | 0 => rfl
  | k + 1 => by simp only [absC, abs8, pressC_eq, absC_eq h l k]
def shaC (l : List UInt8) : List UInt8 := out8 (absC start8 (pad l) ((pad l).length / 64))
theorem shaC_eq (l : List UInt8) : shaC l = sha l := by unfold shaC sha; rw [absC_eq]
theorem sha_abc : gb (shaC [97, 98, 99]) 0 = 186 ∧ gb (shaC [97, 98, 99]) 1 = 120 ∧ gb (shaC [97, 98, 99]) 31 = 173 := by decide +kernel
end Go.Proofs.YtocfhkmdkdjinaaDoor

/- The authenticators of the first two asks differ: reckoned. -/
namespace Go.Proofs.YtocfhkmdkdjinaaDoor
set_option linter.unusedVariables false
set_option linter.unusedSimpArgs false
def hmC (k m : List UInt8) : List UInt8 := shaC (padK (kfit k) 92 ++ shaC (padK (kfit k) 54 ++ m))
theorem hmC_eq (k m : List UInt8) : hmC k m = hm k m := by
  unfold hmC hm
  rw [shaC_eq, shaC_eq]
theorem kfit_z : kfit (List.replicate 32 0) = List.replicate 32 0 := by
  unfold kfit
  rw [if_neg (by decide)]
theorem au_0 : gb (shaC (padK (List.replicate 32 0) 92 ++ shaC (padK (List.replicate 32 0) 54 ++ [0, 0, 0, 0]))) 0 = 170 := by decide +kernel
theorem au_1 : gb (shaC (padK (List.replicate 32 0) 92 ++ shaC (padK (List.replicate 32 0) 54 ++ [0, 0, 0, 1]))) 0 = 247 := by decide +kernel
theorem auP_0 : gb (auP 0) 0 = 170 := by
  have h : auP 0 = hmC (List.replicate 32 0) [0, 0, 0, 0] := by rw [hmC_eq]; rfl
  rw [h]
  unfold hmC
  rw [kfit_z]
  exact au_0
theorem auP_1 : gb (auP 1) 0 = 247 := by
  have h : auP 1 = hmC (List.replicate 32 0) [0, 0, 0, 1] := by rw [hmC_eq]; rfl
  rw [h]
  unfold hmC
  rw [kfit_z]
  exact au_1
theorem au_ne : ¬ auP 0 = auP 1 := fun h => by
  have h0 := auP_0
  rw [h, auP_1] at h0
  exact absurd h0 (by decide)
theorem au_ne16 : ¬ q16 (auP 1) = q16 (auP 0) := fun h => by
  have h0 := auP_0
  have h1 := auP_1
  rw [← q16_gb _ 0 (by decide)] at h0 h1
  rw [h, h0] at h1
  exact absurd h1 (by decide)
end Go.Proofs.YtocfhkmdkdjinaaDoor

/- append of a row whose elements own their bytes: these are read only from now on. Over any program. -/
namespace Go.Proofs.YtocfhkmdkdjinaaDoor
open Go Go.RowKit
set_option linter.unusedVariables false
set_option linter.unusedSimpArgs false
section
variable {C : Ctx} {s : St} {pos : String} {after : Array Edge} {gd : Option (Nat × Bool)} {ty : TypeId}
theorem eff_apf {dst : Option Tmp} (T T2 : TypeId) (x y : Operand) (o2 : Nat) {cs2 : List D} (hc : (s.ob o2).ct = some (.cells cs2)) (hf : cs2.all D.fr0 = true) {g : Prop} {o esz : Nat} {c : Cont} {n : Nat} {R : List Nat}
    (e : apoD (tiOf C.P) (s.lay o2 ⟨(s.ob o2).sh, some (.cells (cs2.map frz))⟩).ob T T2 (ev C s x) (ev C s y) = some (g, o, esz, c, n, R)) (hg : g) (hd : dstOk C.n dst) :
    Eff C ⟨dst, .call { callee := .builtin .append, args := #[x, y], argTypes := #[T, T2] }, ty, pos, after, gd⟩ s (.sl o (((s.lay o2 ⟨(s.ob o2).sh, some (.cells (cs2.map frz))⟩).ob o).sh.gen + 1) 0 n) [(o2, ⟨(s.ob o2).sh, some (.cells (cs2.map frz))⟩), (o, nob (s.lay o2 ⟨(s.ob o2).sh, some (.cells (cs2.map frz))⟩) o esz c)] (opT x ++ opT y) (o2 :: R) := by
  intro σ hT hR K Q a w hrep hK
  have ho2 : σ.ob o2 = s.ob o2 := hR o2 (by simp)
  have hw := wk_freeze (C := C) (s := σ) o2 (by rw [ho2]; exact hc) hf a w hrep
  rw [ho2] at hw
  have hev : ∀ z : Operand, ev C (s.lay o2 ⟨(s.ob o2).sh, some (.cells (cs2.map frz))⟩) z = ev C s z := fun z => by cases z <;> rfl
  have he := eff_apo (C := C) (s := s.lay o2 ⟨(s.ob o2).sh, some (.cells (cs2.map frz))⟩) (pos := pos) (after := after) (gd := gd) (ty := ty) (dst := dst) T T2 x y (by rw [hev, hev]; exact e) hg hd
  exact he (σ.lay o2 ⟨(s.ob o2).sh, some (.cells (cs2.map frz))⟩) hT (fun z hz => by
    rw [St.ob_lay, St.ob_lay]
    split
    · rfl
    · exact hR z (List.mem_cons_of_mem _ hz)) K Q a w hw hK
variable {Ti : Nat → TI} {G : Nat → Option D} {n : Nat} {ops : Array Oper} {acc acc' : Acc} {rest rest' : List Oper} {s1 s2 : St} {K : Acc → St → Prop} {W : St → St → Prop}
/-- That operation in a region. -/
theorem APF_ {sl : List (Nat × D)} {hp : List (Nat × Ob)} {dk : List Nat} {t : Nat} {T T2 : TypeId} {x y : Operand} {gd : Option (Nat × Bool)} {g : Prop} {dx dy : D} {o esz k γ : Nat} {c : Cont} {R : List Nat} (o2 : Nat) {sh2 : Sh} {cs2 cs3 : List D} (hE : Env C Ti G n)
    (hf : cs2.all D.fr0 = true) (hcs : cs2.map frz = cs3) (hk : RG C ops W (([o2, o], o2 :: R) :: acc) rest s2 K)
    (hc2 : (⟨sl, hp, dk⟩ : St).ob o2 = ⟨sh2, some (.cells cs2)⟩ := by exact rfl) (hx : frc (evg G ⟨sl, hp, dk⟩ x) = some dx := by exact rfl) (hy : frc (evg G ⟨sl, hp, dk⟩ y) = some dy := by exact rfl)
    (hc : gcO ops ⟨sl, hp, dk⟩ gd = .yes := by exact rfl) (hb : dstB n (some t) = true := by exact rfl) (e : apoD Ti (⟨sl, (o2, ⟨sh2, some (.cells cs3)⟩) :: hp, dk⟩ : St).ob T T2 dx dy = some (g, o, esz, c, k, R) := by exact rfl) (hg : g := by exact sg_)
    (hγ : ((⟨sl, (o2, ⟨sh2, some (.cells cs3)⟩) :: hp, dk⟩ : St).ob o).sh.gen + 1 = γ := by exact nc_)
    (hs : (⟨(t, .sl o γ 0 k) :: sl, (o, ⟨⟨γ, esz, c.len⟩, some c⟩) :: (o2, ⟨sh2, some (.cells cs3)⟩) :: hp, dk⟩ : St) = s2 := by exact nr_) : RG C ops W acc (⟨some t, .call { callee := .builtin .append, args := #[x, y], argTypes := #[T, T2] }, ty, pos, after, gd⟩ :: rest) ⟨sl, hp, dk⟩ K := by
  subst hcs
  subst hγ
  subst hs
  intro M hM hW hend
  have hx' := frc_ok hx
  have hy' := frc_ok hy
  rw [← hE.g, ← ev_g] at hx' hy'
  rw [← hE.ti] at e
  rw [← hx', ← hy'] at e
  have hsh : ((⟨sl, hp, dk⟩ : St).ob o2).sh = sh2 := by rw [hc2]
  have hlay : (⟨sl, hp, dk⟩ : St).lay o2 ⟨((⟨sl, hp, dk⟩ : St).ob o2).sh, some (.cells (cs2.map frz))⟩ = (⟨sl, (o2, ⟨sh2, some (.cells (cs2.map frz))⟩) :: hp, dk⟩ : St) := by rw [hsh]; rfl
  have he := eff_apf (C := C) (s := ⟨sl, hp, dk⟩) (pos := pos) (after := after) (gd := gd) (ty := ty) T T2 x y o2 (by rw [hc2]) hf (by rw [hlay]; exact e) hg (dstB_ok hE hb)
  rw [hlay, hsh] at he
  refine hM.step _ _ _ _ _ _ _ (effG_yes (o := ⟨some t, _, ty, pos, after, gd⟩) hc (he.weak ?_ (fun _ h => h))) (hk M hM hW hend)
  intro z hz
  simp only [opsT, Op.operands, Call.operands, List.mem_flatMap] at hz ⊢
  rcases List.mem_append.1 hz with hz | hz
  · exact ⟨x, by simp, hz⟩
  · exact ⟨y, by simp, hz⟩
end
end Go.Proofs.YtocfhkmdkdjinaaDoor

/- Only some slots and objects are kept. Over any program. -/
namespace Go.Proofs.YtocfhkmdkdjinaaDoor
open Go Go.RowKit
set_option linter.unusedVariables false
set_option linter.unusedSimpArgs false
def cutS (s : St) : List Nat → Option (List (Nat × D))
  | [] => some []
  | t :: r => match frc (s.slot t), cutS s r with
    | some d, some l => some ((t, d) :: l)
    | _, _ => none
def cutH (s : St) : List Nat → Option (List (Nat × Ob))
  | [] => some []
  | o :: r => match s.ob o, cutH s r with
    | ⟨⟨g, e, n⟩, c⟩, some l => some ((o, ⟨⟨g, e, n⟩, c⟩) :: l)
    | _, none => none
theorem wc_ {C : Ctx} {s : St} {sl' : List (Nat × D)} {hp' : List (Nat × Ob)} {dk : List Nat} (ts os : List Nat) (hrc : ∀ d v, ¬ C.keep d v) (e1 : cutS s ts = some sl' := by exact rfl) (e2 : cutH s os = some hp' := by exact rfl) (hdk : dk = s.dk := by exact rfl)
    (hs : slOk s (hp'.map (·.1)) sl' := by exact wkk_) (hh : hpOk s (hp'.map (·.1)) hp' := by exact wkk_) : Wk C s ⟨sl', hp', dk⟩ := wk_of hdk hs hh hrc
end Go.Proofs.YtocfhkmdkdjinaaDoor
