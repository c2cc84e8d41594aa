/- Small facts that walks use. Over any program. -/
import Derived.Test.YtpmbdppppnbmnaaIn
import Derived.Test.YtpmbdppppnbmnaaDrw
namespace Go.Proofs.Ytpmbdppppnbmnaa
open Go Go.RowKit

theorem inR_i64 (n : Int) : inR .i64 n ↔ -9223372036854775808 ≤ n ∧ n ≤ 9223372036854775807 := by
  simp [inR, IntKind.min, IntKind.max, IntKind.signed, IntKind.bits]
theorem inR_u64 (n : Int) : inR .u64 n ↔ 0 ≤ n ∧ n ≤ 18446744073709551615 := by
  simp [inR, IntKind.min, IntKind.max, IntKind.signed, IntKind.bits]
theorem wr64 (n : Int) : 0 ≤ IntKind.u64.wrap n := by
  simp only [IntKind.wrap, IntKind.signed, IntKind.bits]
  first | omega | (split <;> omega) | exact Int.emod_nonneg _ (by decide)
theorem map_u8 {l : List UInt8} {i : Nat} (h : i < l.length) : (l.map D.u8).getD i .bot = .u8 (gb l i) := by
  have := gb_of h
  simp [List.getD_eq_getElem?_getD, h] at this ⊢
  first | exact this | exact this.symm | simp [gb, List.getD_eq_getElem?_getD, h]
/-! Ends. -/
theorem fin0 {ts : List Nat} {res : D} {s : St} {own fro : List Nat} (hdk : s.dk = s.dk) (h : Mat s (resD ts s) res own fro) (hnd : own.Nodup) (hdis : ∀ o ∈ own, o ∉ fro) : Fin ts res none s := by
  refine ⟨own, fro, hnd, hdis, hdk, ?_⟩
  have := Mat.tcons (s := s) _ _ [] [] own [] fro [] h .tnil
  simpa using this
theorem fin1 {ts : List Nat} {res : D} {cs cs' : List D} {s : St} {own fro : List Nat} (hdk : s.dk = s.dk) (ho : (s.ob 900).ct = some (.cells cs)) (hg : 1 = (s.sh 900).gen) (hf : cs.all D.fr0 = true) (h0' : Nat.blt 0 cs.length = true) (e : cs = cs') (h : Mat s (resD ts s) res own fro) (hnd : (own ++ [900]).Nodup) (hdis : ∀ o ∈ own ++ [900], o ∉ fro) :
    Fin ts res (some cs') s := by
  subst e
  have h0 : 0 < cs.length := by simpa [Nat.blt_eq] using h0'
  refine ⟨own ++ [900], fro, hnd, hdis, hdk, ?_⟩
  have h1 := Mat.ptr_f (s := s) 900 1 cs ho hg hf h0
  have := Mat.tcons (s := s) _ _ _ _ own [900] fro [] h (Mat.tcons _ _ [] [] [900] [] [] [] h1 .tnil)
  simpa using this
theorem fin2 {ts : List Nat} {res : D} {cs : List D} {s : St} {own fro own' fro' : List Nat} (hdk : s.dk = s.dk) (h : Mat s (resD ts s) res own fro) (hr : Mat s (.ptr 900 1 0) (.ownp cs) own' fro') (hnd : (own ++ own').Nodup) (hdis : ∀ o ∈ own ++ own', o ∉ fro ++ fro') : Fin ts res (some cs) s := by
  refine ⟨own ++ own', fro ++ fro', hnd, hdis, hdk, ?_⟩
  have := Mat.tcons (s := s) _ _ _ _ own _ fro _ h (Mat.tcons _ _ [] [] own' [] fro' [] hr .tnil)
  simpa using this
theorem mat_eq {s : St} {d d' : D} (e : d = d') (h : d'.pf = true) : Mat s d d' [] [] := by
  subst e
  exact .plain _ h
theorem ms {s : St} {t : Nat} {d r : D} {own fro : List Nat} (e : frc (s.slot t) = some d) (h : Mat s d r own fro) : Mat s (s.slot t) r own fro := by rw [frc_ok e]; exact h
theorem mat1 {s : St} {a : Nat} {d r : D} {own fro : List Nat} (e : frc (s.slot a) = some d) (h : Mat s d r own fro) : Mat s (resD [a] s) r own fro := ms e h
theorem mat2 {s : St} {a b : Nat} {d1 d2 r1 r2 : D} {o1 f1 o2 f2 : List Nat} (e1 : frc (s.slot a) = some d1) (e2 : frc (s.slot b) = some d2) (h1 : Mat s d1 r1 o1 f1) (h2 : Mat s d2 r2 o2 f2) : Mat s (resD [a, b] s) (.tup [r1, r2]) (o1 ++ o2) (f1 ++ f2) := by
  have := Mat.tcons (s := s) _ _ _ _ o1 _ f1 _ (ms e1 h1) (Mat.tcons _ _ [] [] o2 [] f2 [] (ms e2 h2) .tnil)
  simpa [resD] using this
theorem mat3 {s : St} {a b c : Nat} {d1 d2 d3 r1 r2 r3 : D} {o1 f1 o2 f2 o3 f3 : List Nat} (e1 : frc (s.slot a) = some d1) (e2 : frc (s.slot b) = some d2) (e3 : frc (s.slot c) = some d3) (h1 : Mat s d1 r1 o1 f1) (h2 : Mat s d2 r2 o2 f2) (h3 : Mat s d3 r3 o3 f3) : Mat s (resD [a, b, c] s) (.tup [r1, r2, r3]) (o1 ++ (o2 ++ o3)) (f1 ++ (f2 ++ f3)) := by
  have := Mat.tcons (s := s) _ _ _ _ o1 _ f1 _ (ms e1 h1) (Mat.tcons _ _ _ _ o2 _ f2 _ (ms e2 h2) (Mat.tcons _ _ [] [] o3 [] f3 [] (ms e3 h3) .tnil))
  simpa [resD] using this
theorem mat_sl {s : St} {o g off len : Nat} {l l' : List UInt8} (ho : (s.ob o).ct = some (.bytes l)) (hg : g = (s.sh o).gen) (he : (s.sh o).esz = 1) (e : (l.drop off).take len = l') : Mat s (.sl o g off len) (.ownb l') [o] [] := by
  subst e
  exact .sl_b o g off len l ho hg he
theorem mc {s : St} {d d' : D} {ds ds' : List D} {o1 o2 f1 f2 : List Nat} (h : Mat s d d' o1 f1) (hs : Mat s (.tup ds) (.tup ds') o2 f2) : Mat s (.tup (d :: ds)) (.tup (d' :: ds')) (o1 ++ o2) (f1 ++ f2) := .tcons _ _ _ _ _ _ _ _ h hs
theorem mcf {s : St} {d0 d d' : D} {ds ds' : List D} {o1 o2 f1 f2 : List Nat} (e : frc d0 = some d) (h : Mat s d d' o1 f1) (hs : Mat s (.tup ds) (.tup ds') o2 f2) : Mat s (.tup (d0 :: ds)) (.tup (d' :: ds')) (o1 ++ o2) (f1 ++ f2) := by
  rw [frc_ok e]
  exact mc h hs
theorem mat_p {s : St} {o g : Nat} {cs cs' : List D} {own fro : List Nat} (ho : (s.ob o).ct = some (.cells cs)) (hg : g = (s.sh o).gen) (hsc : cs.all D.sc = true) (h0 : Nat.blt 0 cs.length = true) (h : Mat s (.tup cs) (.tup cs') own fro) : Mat s (.ptr o g 0) (.ownp cs') (o :: own) fro :=
  .ptr o g cs cs' own fro ho hg hsc (by simpa [Nat.blt_eq] using h0) h
theorem fnOk_of {P : Program} {f : Nat} {fn : Func} (h : P.funcs[f]? = some fn) (h2 : (fn.name == "runtime.NumGoroutine") = false) (h3 : fn.body.isNone = false) : fnOk P f := ⟨fn, h, h2, h3⟩
theorem cells_agg (cs : List D) : (D.agg cs).cells = cs := rfl
theorem cells_aggb (l : List UInt8) : (D.aggb l).cells = l.map D.u8 := rfl
theorem b8_lit (n : Nat) : b8 (no_index (OfNat.ofNat n : Int)) = (OfNat.ofNat n : UInt8) := by
  unfold b8
  apply UInt8.toNat_inj.1
  have : ((OfNat.ofNat n : Int) % 256).toNat = n % 256 := by
    show (((n : Int)) % 256).toNat = n % 256
    omega
  rw [this]
  show (UInt8.ofNat (n % 256)).toNat = (UInt8.ofNat n).toNat
  simp
theorem w32_lit (n : Nat) : w32 (no_index (OfNat.ofNat n : Int)) = (OfNat.ofNat n : UInt32) := by
  unfold w32
  apply UInt32.toNat_inj.1
  have : ((OfNat.ofNat n : Int) % 4294967296).toNat = n % 4294967296 := by
    show (((n : Int)) % 4294967296).toNat = n % 4294967296
    omega
  rw [this]
  show (UInt32.ofNat (n % 4294967296)).toNat = (UInt32.ofNat n).toNat
  simp
end Go.Proofs.Ytpmbdppppnbmnaa
