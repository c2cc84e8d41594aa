/- What the claim leans on, text Zpb: Po0, Po1, Po2, Po3. No condition beyond what each lemma states. -/
import Derived.Test.YtocfhkmdkdjinaaDoorZpa
import Derived.Test.YtocfhkmdkdjinaaDoorZsb
import Derived.Test.YtocfhkmdkdjinaaDoorZd
import Derived.Test.YtocfhkmdkdjinaaDoorZt

/- A port's cells. -/
namespace Go.Proofs.YtocfhkmdkdjinaaDoor
open Go Go.RowKit
set_option linter.unusedVariables false
set_option linter.unusedSimpArgs false
/-- A port: its secret, how often and how long, how it stands, the Request's number, how many asks, the last ask's authenticator, the peer's name, the server's mark, what was said, how often, since when. -/
def portC (S : List UInt8) (T W st id n : Int) (au nm mk : List UInt8) (hm : Bool) (sd : List UInt8) (tr il : Int) : List D :=
  D.rob S :: D.u8 0 :: D.u8 0 :: D.u8 0 :: D.u8 0 :: D.u8 0 :: D.u8 0 :: D.u8 0 :: D.u8 0 :: D.u8 0 :: D.u8 0 :: D.u8 0 :: D.u8 0 :: D.u8 0 :: D.u8 0 :: D.u8 0 :: D.u8 0 :: D.u8 0 :: D.u8 0 :: D.u8 0 :: D.u8 0 :: D.u8 0 :: D.u8 0 :: D.u8 0 :: D.u8 0 :: D.u8 0 :: D.u8 0 :: D.u8 0 :: D.u8 0 :: D.u8 0 :: D.u8 0 :: D.u8 0 :: D.u8 0 :: D.int .i64 T :: D.int .i64 W :: D.int .i64 st :: D.int .i64 id :: D.int .i64 n :: D.u8 (gb au 0) :: D.u8 (gb au 1) :: D.u8 (gb au 2) :: D.u8 (gb au 3) :: D.u8 (gb au 4) :: D.u8 (gb au 5) :: D.u8 (gb au 6) :: D.u8 (gb au 7) :: D.u8 (gb au 8) :: D.u8 (gb au 9) :: D.u8 (gb au 10) :: D.u8 (gb au 11) :: D.u8 (gb au 12) :: D.u8 (gb au 13) :: D.u8 (gb au 14) :: D.u8 (gb au 15) :: D.rob nm :: D.rob mk :: D.bool hm :: D.rob sd :: D.int .i64 tr :: D.int .i64 il :: D.u8 0 :: D.u8 0 :: D.u8 0 :: D.u8 0 :: D.u8 0 :: D.u8 0 :: D.u8 0 :: D.u8 0 :: D.u8 0 :: D.u8 0 :: D.u8 0 :: D.u8 0 :: D.u8 0 :: D.u8 0 :: D.u8 0 :: D.u8 0 :: D.u8 0 :: D.u8 0 :: D.u8 0 :: D.u8 0 :: D.u8 0 :: D.u8 0 :: D.u8 0 :: D.u8 0 :: D.u8 0 :: D.u8 0 :: D.u8 0 :: D.u8 0 :: D.u8 0 :: D.u8 0 :: D.u8 0 :: D.u8 0 :: D.u8 0 :: D.u8 0 :: D.u8 0 :: D.u8 0 :: D.u8 0 :: D.u8 0 :: D.u8 0 :: D.u8 0 :: D.u8 0 :: D.u8 0 :: D.u8 0 :: D.u8 0 :: D.u8 0 :: D.u8 0 :: D.u8 0 :: D.u8 0 :: D.u8 0 :: D.u8 0 :: D.u8 0 :: D.u8 0 :: D.u8 0 :: D.u8 0 :: D.u8 0 :: D.u8 0 :: D.u8 0 :: D.u8 0 :: D.u8 0 :: D.u8 0 :: D.u8 0 :: D.u8 0 :: D.u8 0 :: D.u8 0 :: []
theorem portC_len (S : List UInt8) (T W st id n : Int) (au nm mk : List UInt8) (hm : Bool) (sd : List UInt8) (tr il : Int) : (portC S T W st id n au nm mk hm sd tr il).length = 124 := rfl
section
variable {w : World} {S : Nat → Prop} {ρ : Nat → Pl} {H : Nat → Sh}
theorem nil_rob {v : Value} {F : List Nat} (h : RV w S ρ H .nilS v F) : RV w S ρ H (.rob []) v F := by
  cases h
  exact .rob [] none 0 0 ⟨rfl, Nat.le_refl _, by simp [maxLen], fun h => absurd h (by omega)⟩
end
/-- A cell of an object, known otherwise. -/
theorem kconvc {C : Ctx} {d d' : D} {sl : List (Nat × D)} {hp : List (Nat × Ob)} {dk : List Nat} (o i : Nat) {sh : Sh} {cs cs' : List D} (ho : (⟨sl, hp, dk⟩ : St).ob o = ⟨sh, some (.cells cs)⟩) (hi : cs[i]? = some d) (hcv : ∀ {w : World} {S : Nat → Prop} {ρ : Nat → Pl} {H : Nat → Sh} {v : Value} {F : List Nat}, RV w S ρ H d v F → RV w S ρ H d' v F) (hcs : cs.set i d' = cs') :
    Wk C ⟨sl, hp, dk⟩ ⟨sl, (o, ⟨sh, some (.cells cs')⟩) :: hp, dk⟩ := by
  subst hcs
  rintro a w ⟨h1, h2, ρ, S, Φ, h3, h4⟩
  have hct : ((⟨sl, hp, dk⟩ : St).ob o).ct = some (.cells cs) := by rw [ho]
  have hsh : (⟨sl, hp, dk⟩ : St).sh o = sh := by unfold St.sh; rw [ho]
  obtain ⟨q1, q2⟩ := h3.ob o _ hct
  have hil : i < cs.length := (List.getElem?_eq_some_iff.1 hi).1
  obtain ⟨k1, k2⟩ := h3.one (w' := w) o ⟨sh, some (.cells (cs.set i d'))⟩ (ρ o) (Φ o) rfl rfl rfl (Nat.le_refl _) (Szs.refl w) (.inr ⟨hsh.symm, rfl⟩) (fun _ _ _ => rfl) (fun c' hc' => by
    have e1 : Cont.cells (cs.set i d') = c' := by simpa using hc'
    subst e1
    rw [upd_self]
    have e2 : upd (⟨sl, hp, dk⟩ : St).sh o (⟨sh, some (.cells (cs.set i d'))⟩ : Ob).sh = (⟨sl, hp, dk⟩ : St).sh := by
      show upd _ o sh = _
      rw [← hsh]; exact upd_self _ o
    rw [e2]
    rw [hsh] at q1
    refine ⟨by simpa [Cont.len] using q1, ?_⟩
    rcases q2 with ⟨z1, z2, z3⟩ | ⟨cur, E, fz, Fs, hh, hz, hs, hb, hF, hfl, hc⟩
    · exact .inl ⟨by simpa [Cont.len] using z1, z2, z3⟩
    · refine .inr ⟨cur, E, fz, Fs, hh, hz, hs, by simpa [Cont.len] using hb, hF, by simpa using hfl, fun j c u f p1 p2 p3 => ?_⟩
      rw [List.getElem?_set] at p1
      by_cases hij : i = j
      · subst hij
        rw [if_pos rfl, if_pos hil] at p1
        injection p1 with p1
        subst p1
        have hv := hc i _ u f hi p2 p3
        exact hcv hv
      · rw [if_neg hij] at p1
        exact hc j c u f p1 p2 p3) (fun _ => ⟨(h3.own o _ hct).1, fun b hb => ⟨((h3.own o _ hct).2 b hb).1, ((h3.own o _ hct).2 b hb).2.1, ((h3.own o _ hct).2 b hb).2.2.1, ((h3.own o _ hct).2 b hb).2.2.2, fun o' c' hne hc' => h3.dis o o' _ c' hct hc' (Ne.symm hne) b hb⟩⟩)
  rw [upd_self, upd_self] at k1
  rw [upd_self] at k2
  exact ⟨h1, h2, ρ, S, Φ, k1, fun t => k2 _ _ (h4 t)⟩
end Go.Proofs.YtocfhkmdkdjinaaDoor

/- port: within, New, busy, say, State, Start, Tick. Printed by wp.py. -/
namespace Go.Proofs.YtocfhkmdkdjinaaDoor
open Go Go.RowKit
set_option linter.unusedVariables false
set_option linter.unusedSimpArgs false
set_option maxRecDepth 100000
set_option maxHeartbeats 4000000
attribute [local irreducible] inR VC RG VCn sq inS lq nq jq Wk

namespace Upstate_fc
theorem U : type_of% (@drop_rep UInt8) ∧ type_of% (@drop_rep D) ∧ type_of% (@List.take_zero UInt8) ∧ type_of% (@List.take_zero D) := ⟨(@drop_rep UInt8), (@drop_rep D), (@List.take_zero UInt8), (@List.take_zero D)⟩
end Upstate_fc
open Upstate_fc
theorem pstate_fc (S : List UInt8) (T W st id n : Int) (au nm mk : List UInt8) (hm : Bool) (sd : List UInt8) (tr il : Int) : FC Tryd.prog GE 56 [.ownp (portC S T W st id n au nm mk hm sd tr il)] (.int .i64 st) (some (portC S T W st id n au nm mk hm sd tr il)) := by
  unfold portC
  refine fo_ 9 [2] ti_eq gpE Tryd.func56 (fun C hE hm hP hr9 hrn => ?_)
  refine A_ ?_
  exact retr_

theorem pbusy_fc (S : List UInt8) (T W st id n : Int) (au nm mk : List UInt8) (hm : Bool) (sd : List UInt8) (tr il : Int) : FC Tryd.prog GE 92 [.ownp (portC S T W st id n au nm mk hm sd tr il)] (.bool (decide (st = 1) || decide (st = 2))) (some (portC S T W st id n au nm mk hm sd tr il)) := by
  unfold portC
  refine fo_ 15 [2] ti_eq gpE Tryd.func92 (fun C hE hm hP hr9 hrn => ?_)
  refine A_ ?_
  exact retr_

theorem psay_fc (S : List UInt8) (T W st id n : Int) (au nm mk : List UInt8) (hm : Bool) (sd : List UInt8) (tr il : Int) (b : List UInt8) (st2 : Int) (hb : b.length ≤ 1000000) : FC Tryd.prog GE 93 [.ownp (portC S T W st id n au nm mk hm sd tr il), .rob b, .int .i64 st2] (.ownb b) (some (portC S T W st2 id n au nm mk hm b 1 0)) := by
  unfold portC
  refine fo_ 23 [6] ti_eq gpE Tryd.func93 (fun C hE hm hP hr9 hrn => ?_)
  refine A_ ?_
  first | refine O_ ?_ | refine OD_ hm ?_
  refine G_ 1 hE ?_
  refine rc_ hE hP (clone_fc _ b (by omega)) Tryd.func85 ?_
  refine G_ 200 hE ?_
  first | refine rz ?_ | refine ZD_ ?_
  refine A_ ?_
  exact retr_
end Go.Proofs.YtocfhkmdkdjinaaDoor

/- port: New, Start, Tick, Keys; the law's packet. Printed by wp.py. -/
namespace Go.Proofs.YtocfhkmdkdjinaaDoor
open Go Go.RowKit
set_option linter.unusedVariables false
set_option linter.unusedSimpArgs false
set_option maxRecDepth 100000
set_option maxHeartbeats 4000000
attribute [local irreducible] inR VC RG VCn sq inS lq nq jq Wk
attribute [local simp] portC_len
theorem busy_y {st : Int} (h : st = 1 ∨ st = 2) : (decide (st = 1) || decide (st = 2)) = true := by rcases h with rfl | rfl <;> rfl
theorem busy_n {st : Int} (h : ¬ (st = 1 ∨ st = 2)) : (decide (st = 1) || decide (st = 2)) = false := by rw [decide_eq_false (fun e => h (.inl e)), decide_eq_false (fun e => h (.inr e))]; rfl
/-- What is asked first. -/
def whoP : List UInt8 := [1, 0, 0, 5, 1]
theorem whoP_w : weV 1 0 1 [] = (whoP, 0) := by decide

namespace Upwithin_fc
theorem U : type_of% (@drop_rep UInt8) ∧ type_of% (@drop_rep D) ∧ type_of% (@List.take_zero UInt8) ∧ type_of% (@List.take_zero D) := ⟨(@drop_rep UInt8), (@drop_rep D), (@List.take_zero UInt8), (@List.take_zero D)⟩
end Upwithin_fc
open Upwithin_fc
theorem pwithin_fc (n lo hi : Int) : FC Tryd.prog GE 91 [.int .i64 n, .int .i64 lo, .int .i64 hi] (.bool (decide (lo ≤ n ∧ n ≤ hi))) none := by
  refine fi_ 15 [6] ti_eq gpE Tryd.func91 (fun C hE hm hP hrc hrn => ?_)
  rw [← wi_dec]
  repeat' (first | refine A1_ ?_ | refine C_ hE (fun hc => ?_) (fun hc => ?_) <;> (try (exfalso; omega)))
  exact ret_

theorem packet_fc (c i t : Int) (d : List UInt8) (hd : d.length ≤ 1000000) : FC Tryd.prog GE 58 [.int .i64 c, .int .i64 i, .int .i64 t, .str d] (.ownb (weV c i t d).1) none := by
  refine fi_ 22 [8] ti_eq gpE Tryd.func58 (fun C hE hm hP hrc hrn => ?_)
  refine A_ ?_
  first | refine O_ ?_ | refine OD_ hm ?_
  refine G_ 6 hE ?_
  refine rc_ hE hP (ewrite_fc c i t d hd) Tryd.func64 ?_ (hm := by exact ma2_) (hnr := by exact nrt2_) (had := by exact adt2_)
  refine G_ 200 hE ?_
  first | refine rz ?_ | refine ZD_ ?_
  refine A_ ?_
  exact ret_

theorem pnew_fc (S : List UInt8) (T W : Int) (hS : 1 ≤ S.length ∧ S.length ≤ 100) (hT : 1 ≤ T ∧ T ≤ 5) (hW : 1 ≤ W ∧ W ≤ 1000) : FC Tryd.prog GE 52 [.agg [.rob S, .u8 0, .u8 0, .u8 0, .u8 0, .u8 0, .u8 0, .u8 0, .u8 0, .u8 0, .u8 0, .u8 0, .u8 0, .u8 0, .u8 0, .u8 0, .u8 0, .u8 0, .u8 0, .u8 0, .u8 0, .u8 0, .u8 0, .u8 0, .u8 0, .u8 0, .u8 0, .u8 0, .u8 0, .u8 0, .u8 0, .u8 0, .u8 0, .int .i64 T, .int .i64 W]] (.tup [.ownp (portC S T W 0 0 0 z16 [] [] false [] 0 0), .int .i64 0]) none := by
  refine fi_ 28 [2, 3] ti_eq gpE Tryd.func52 (fun C hE hm hP hrc hrn => ?_)
  refine vs ?_
  refine R_ hE ?_
  refine sq_n ?_
  refine vs ?_
  refine vs ?_
  first | refine O_ ?_ | refine OD_ hm ?_
  refine G_ 3 hE ?_
  refine rc_ hE hP (pwithin_fc S.length 1 100) Tryd.func91 ?_
  rw [decide_eq_true (show (1 : Int) ≤ S.length ∧ (S.length : Int) ≤ 100 by omega)]
  refine G_ 2 hE ?_
  refine GT_ hE (rfl) ?_
  refine GT_ hE (rfl) ?_
  refine rct_ hE hP (pwithin_fc T 1 5) Tryd.func91 (rfl) ?_
  rw [decide_eq_true hT]
  refine GT_ hE (rfl) ?_
  refine G_ 2 hE ?_
  refine GT_ hE (rfl) ?_
  refine GT_ hE (rfl) ?_
  refine rct_ hE hP (pwithin_fc W 1 1000) Tryd.func91 (rfl) ?_
  rw [decide_eq_true hW]
  refine GT_ hE (rfl) ?_
  refine G_ 200 hE ?_
  first | refine rz ?_ | refine ZD_ ?_
  refine A_ ?_
  first | refine O_ ?_ | refine OD_ hm ?_
  refine G_ 2 hE ?_
  refine rc_ hE hP (clone_fc _ S (by omega)) Tryd.func85 ?_
  refine G_ 200 hE ?_
  first | refine rz ?_ | refine ZD_ ?_
  refine sq_n ?_
  refine vs ?_
  first | refine O_ ?_ | refine OD_ hm ?_
  refine G_ 200 hE ?_
  first | refine rz ?_ | refine ZD_ ?_
  refine sq_n ?_
  refine VC.weak ?_ (kconvc 27 54 (d := .nilS) (d' := .rob []) (by exact rfl) (by exact rfl) nil_rob (by exact rfl))
  refine VC.weak ?_ (kconvc 27 55 (d := .nilS) (d' := .rob []) (by exact rfl) (by exact rfl) nil_rob (by exact rfl))
  refine VC.weak ?_ (kconvc 27 57 (d := .nilS) (d' := .rob []) (by exact rfl) (by exact rfl) nil_rob (by exact rfl))
  refine VC.weak ?_ (kclose 27 0 23 (by exact rfl) (by exact rfl) (by exact rfl) (by exact rfl) (by exact rfl) (by exact rfl) (by exact rfl))
  rw [List.drop_zero, List.take_length]
  refine VC.weak ?_ (kfreeze 27 (cs' := portC S T W 0 0 0 z16 [] [] false [] 0 0) (by exact rfl) (by exact rfl) (by exact rfl))
  refine A_ ?_
  exact ret_

theorem pstart_fc (S : List UInt8) (T W st id n : Int) (au nm mk : List UInt8) (mh : Bool) (sd : List UInt8) (tr il : Int) (hst : ¬ (st = 1 ∨ st = 2)) : FC Tryd.prog GE 54 [.ownp (portC S T W st id n au nm mk mh sd tr il)] (.tup [.ownb whoP, .int .i64 0]) (some (portC S T W 1 0 n au [] [] false whoP 1 0)) := by
  unfold portC
  refine fo_ 32 [2, 3] ti_eq gpE Tryd.func54 (fun C hE hm hP hr9 hrn => ?_)
  have bf := pbusy_fc S T W st id n au nm mk mh sd tr il
  have wf := ewrite_fc 1 0 1 [] (by simp)
  rw [whoP_w] at wf
  rw [busy_n hst] at bf
  refine A_ ?_
  first | refine O_ ?_ | refine OD_ hm ?_
  refine G_ 1 hE ?_
  refine rc_ hE hP (bf) Tryd.func92 ?_
  refine G_ 200 hE ?_
  first | refine rz ?_ | refine ZD_ ?_
  unfold portC
  refine A_ ?_
  refine VC.weak ?_ (kconvc 900 54 (d := .nilS) (d' := .rob []) (by exact rfl) (by exact rfl) nil_rob (by exact rfl))
  refine VC.weak ?_ (kconvc 900 55 (cs' := portC S T W st 0 n au [] [] false sd tr il) (d := .nilS) (d' := .rob []) (by exact rfl) (by exact rfl) nil_rob (by exact rfl))
  first | refine O_ ?_ | refine OD_ hm ?_
  refine G_ 1 hE ?_
  refine rc_ hE hP (wf) Tryd.func64 ?_ (hm := by exact ma2_) (hnr := by exact nrt2_) (had := by exact adt2_)
  refine G_ 200 hE ?_
  first | refine rz ?_ | refine ZD_ ?_
  refine A_ ?_
  refine wv_ (sgb_ 4 26) ?_
  first | refine O_ ?_ | refine OD_ hm ?_
  refine G_ 2 hE ?_
  refine rc_ hE hP (psay_fc S T W st 0 n au [] [] false sd tr il whoP 1 (by decide)) Tryd.func93 ?_
  refine G_ 200 hE ?_
  first | refine rz ?_ | refine ZD_ ?_
  refine A_ ?_
  exact retr_

end Go.Proofs.YtocfhkmdkdjinaaDoor

/- port: Tick. Printed by wp.py. -/
namespace Go.Proofs.YtocfhkmdkdjinaaDoor
open Go Go.RowKit
set_option linter.unusedVariables false
set_option linter.unusedSimpArgs false
set_option maxRecDepth 100000
set_option maxHeartbeats 4000000
attribute [local irreducible] inR VC RG VCn sq inS lq nq jq Wk
attribute [local simp] portC_len

namespace Utick_no
theorem U : type_of% (@drop_rep UInt8) ∧ type_of% (@drop_rep D) ∧ type_of% (@List.take_zero UInt8) ∧ type_of% (@List.take_zero D) := ⟨(@drop_rep UInt8), (@drop_rep D), (@List.take_zero UInt8), (@List.take_zero D)⟩
end Utick_no
open Utick_no
theorem tick_no (S : List UInt8) (T W st id n : Int) (au nm mk : List UInt8) (mh : Bool) (sd : List UInt8) (tr il : Int) (hst : ¬ (st = 1 ∨ st = 2)) : FC Tryd.prog GE 55 [.ownp (portC S T W st id n au nm mk mh sd tr il)] (.tup [.ownb [], .ownb []]) (some (portC S T W st id n au nm mk mh sd tr il)) := by
  unfold portC
  refine fo_ 66 [2, 3] ti_eq gpE Tryd.func55 (fun C hE hm hP hr9 hrn => ?_)
  have bf := pbusy_fc S T W st id n au nm mk mh sd tr il
  rw [busy_n hst] at bf
  refine A_ ?_
  first | refine O_ ?_ | refine OD_ hm ?_
  refine G_ 3 hE ?_
  refine GT_ hE (rfl) ?_
  refine rct_ hE hP (bf) Tryd.func92 (rfl) ?_
  refine GT_ hE (rfl) ?_
  refine G_ 200 hE ?_
  first | refine rz ?_ | refine ZD_ ?_
  unfold portC
  refine A_ ?_
  exact retr_
theorem tick_wait (S : List UInt8) (T W st id n : Int) (au nm mk : List UInt8) (mh : Bool) (sd : List UInt8) (tr il : Int) (hst : st = 1) (hil : 0 ≤ il) (hil2 : il ≤ 100000) (hw : il + 1 < W) : FC Tryd.prog GE 55 [.ownp (portC S T W st id n au nm mk mh sd tr il)] (.tup [.ownb [], .ownb []]) (some (portC S T W st id n au nm mk mh sd tr (il + 1))) := by
  unfold portC
  refine fo_ 66 [2, 3] ti_eq gpE Tryd.func55 (fun C hE hm hP hr9 hrn => ?_)
  have bf := pbusy_fc S T W st id n au nm mk mh sd tr il
  rw [busy_y (.inl hst)] at bf
  refine A_ ?_
  first | refine O_ ?_ | refine OD_ hm ?_
  refine G_ 3 hE ?_
  refine GT_ hE (rfl) ?_
  refine rct_ hE hP (bf) Tryd.func92 (rfl) ?_
  refine GT_ hE (rfl) ?_
  refine G_ 200 hE ?_
  first | refine rz ?_ | refine ZD_ ?_
  unfold portC
  refine A_ ?_
  refine C_ hE (fun hc => ?_) (fun hc => ?_) <;> (try (exfalso; omega))
  refine A_ ?_
  exact retr_
theorem tick_lost (S : List UInt8) (T W st id n : Int) (au nm mk : List UInt8) (mh : Bool) (sd : List UInt8) (tr il : Int) (hst : st = 1) (hil : 0 ≤ il) (hil2 : il ≤ 100000) (hw : ¬ il + 1 < W) (ht : T ≤ tr) : FC Tryd.prog GE 55 [.ownp (portC S T W st id n au nm mk mh sd tr il)] (.tup [.ownb [], .ownb []]) (some (portC S T W 5 id n au nm mk mh sd tr (il + 1))) := by
  unfold portC
  refine fo_ 66 [2, 3] ti_eq gpE Tryd.func55 (fun C hE hm hP hr9 hrn => ?_)
  have bf := pbusy_fc S T W st id n au nm mk mh sd tr il
  rw [busy_y (.inl hst)] at bf
  refine A_ ?_
  first | refine O_ ?_ | refine OD_ hm ?_
  refine G_ 3 hE ?_
  refine GT_ hE (rfl) ?_
  refine rct_ hE hP (bf) Tryd.func92 (rfl) ?_
  refine GT_ hE (rfl) ?_
  refine G_ 200 hE ?_
  first | refine rz ?_ | refine ZD_ ?_
  unfold portC
  refine A_ ?_
  refine C_ hE (fun hc => ?_) (fun hc => ?_) <;> (try (exfalso; omega))
  refine A_ ?_
  refine C_ hE (fun hc2 => ?_) (fun hc2 => ?_) <;> (try (exfalso; omega))
  refine A_ ?_
  exact retr_
theorem tick_say (S : List UInt8) (T W st id n : Int) (au nm mk : List UInt8) (mh : Bool) (sd : List UInt8) (tr il : Int) (hst : st = 1) (hil : 0 ≤ il) (hil2 : il ≤ 100000) (hw : ¬ il + 1 < W) (ht : ¬ T ≤ tr) (htr : 0 ≤ tr) (htr2 : tr ≤ 100000) (hsd : sd.length ≤ 1000000) : FC Tryd.prog GE 55 [.ownp (portC S T W st id n au nm mk mh sd tr il)] (.tup [.ownb sd, .ownb []]) (some (portC S T W st id n au nm mk mh sd (tr + 1) 0)) := by
  unfold portC
  refine fo_ 66 [2, 3] ti_eq gpE Tryd.func55 (fun C hE hm hP hr9 hrn => ?_)
  have bf := pbusy_fc S T W st id n au nm mk mh sd tr il
  rw [busy_y (.inl hst)] at bf
  refine A_ ?_
  first | refine O_ ?_ | refine OD_ hm ?_
  refine G_ 3 hE ?_
  refine GT_ hE (rfl) ?_
  refine rct_ hE hP (bf) Tryd.func92 (rfl) ?_
  refine GT_ hE (rfl) ?_
  refine G_ 200 hE ?_
  first | refine rz ?_ | refine ZD_ ?_
  unfold portC
  refine A_ ?_
  refine C_ hE (fun hc => ?_) (fun hc => ?_) <;> (try (exfalso; omega))
  refine A_ ?_
  refine C_ hE (fun hc2 => ?_) (fun hc2 => ?_) <;> (try (exfalso; omega))
  refine A_ ?_
  refine C_ hE (fun hc3 => ?_) (fun hc3 => ?_) <;> (try (exfalso; omega))
  refine A_ ?_
  first | refine O_ ?_ | refine OD_ hm ?_
  refine G_ 4 hE ?_
  refine rc_ hE hP (clone_fc _ sd (by omega)) Tryd.func85 ?_
  refine G_ 200 hE ?_
  first | refine rz ?_ | refine ZD_ ?_
  refine A_ ?_
  exact retr_
end Go.Proofs.YtocfhkmdkdjinaaDoor
