/- A part of the proof of RateFinds: texts that were printed, words, walks. No condition. -/
import Derived.Test.YtnliaialemfcaaaC1
set_option linter.unusedVariables false
set_option linter.unusedSimpArgs false
section
namespace Go.Proofs.Ytnliaialemfcaaa.PRateFinds
noncomputable section
open Go.RowKit Go.Proofs.YtnliaialemfcaaaW.PrintWords Go.Proofs.YtnliaialemfcaaaW.PrintLast Go.Proofs.YtnliaialemfcaaaW.PrintMore
mutual
def qBD.j0 : Nat → Int → Int → Bool → Option (Int)
 | 0, _, _, _ => none
 | k + 1, x0, x3, x4 => if x4 = true then (some 0) else (if x3 = 4 then (qBD.j1 k x0 x3 (x3 == 4)) else (if x3 = 16 then (qBD.j1 k x0 x3 (x3 == 16)) else (qBD.j1 k x0 x3 (x3 == 17))))
def qBD.j1 : Nat → Int → Int → Bool → Option (Int)
 | 0, _, _, _ => none
 | k + 1, x0, x3, x9 => if x9 = true then (some 1) else (if x3 = 15 then (some 3) else (if x0 > 4 then (if x0 < 19 then (some 2) else (some (-1))) else (some (-1))))
end
def qBD.f (k : Nat) (a0 : Int) : Option (Int) := if a0 = 0 then (qBD.j0 k a0 a0 (a0 == 0)) else (if a0 = 1 then (qBD.j0 k a0 a0 (a0 == 1)) else (if a0 = 2 then (qBD.j0 k a0 a0 (a0 == 2)) else (qBD.j0 k a0 a0 (a0 == 3))))
theorem qBD.qBY : ∀ k, (∀ y0 y1 y2, LeO (qBD.j0 k y0 y1 y2) (qBD.j0 (k + 1) y0 y1 y2)) ∧ (∀ y0 y1 y2, LeO (qBD.j1 k y0 y1 y2) (qBD.j1 (k + 1) y0 y1 y2))
 | 0 => ⟨fun _ _ _ r h => by simp [qBD.j0] at h, fun _ _ _ r h => by simp [qBD.j1] at h⟩
 | k + 1 => by
  obtain ⟨ih0, ih1⟩ := qBD.qBY k
  refine ⟨?_, ?_⟩
  ·intro y0 y1 y2
   unfold qBD.j0
   exact zm
  ·intro y0 y1 y2
   unfold qBD.j1
   exact zm
theorem qBD.mono : ∀ a0 k, LeO (qBD.f k a0) (qBD.f (k + 1) a0) := by
 intro a0 k
 obtain ⟨ih0, ih1⟩ := qBD.qBY k
 unfold qBD.f
 exact zm
set_option maxHeartbeats 8000000 in
set_option maxRecDepth 100000 in
theorem qBD.calls (k : Nat) (a0 : Int) (r : Int) (w : World) (h : qBD.f k a0 = some r) :
  Calls Try.prog 79 #[.int .i64 a0] w fun e w' => e = .returned (.int .i64 r) ∧ qAE w w' := by
 have H : (if a0 = 0 then (qBD.j0 k a0 a0 (a0 == 0)) else (if a0 = 1 then (qBD.j0 k a0 a0 (a0 == 1)) else (if a0 = 2 then (qBD.j0 k a0 a0 (a0 == 2)) else (qBD.j0 k a0 a0 (a0 == 3))))) = some r := h
 clear h
 have HC2 := qA0.mk H
 clear H
 go_enter Try.func79, Try.ntmps79
 go_upto_if 4 with (fail)
 go_cut [4] (fun v4 wc => ∃ (kq : Nat) (x4_1 : Bool), v4 = .bool x4_1 ∧ qA0 (qBD.j0 kq a0 a0 x4_1 = some r) ∧ qA0 (kq ≤ k) ∧ qAE w wc)
 case first =>
  have H := HC2.out
  clear HC2
  by_cases c3 : a0 = 0
  ·rw [if_pos c3] at H
   have ⟨c3b0, c3b1⟩ := ze c3
   clear c3
   (first | rw [c3b0] | (simp only [qCE, qCJ]; rw [c3b0]) | skip)
   have H' := qA0.mk H
   clear H
   go_wp2
   go_meet
   case rel => exact ⟨_, ((a0 == 0)), zs, H', ⟨by first | omega | exact Nat.le_refl _⟩, by repeat (first | exact qAE.refl _ | apply qAE.step)⟩
  ·rw [if_neg c3] at H
   have ⟨c3b0, c3b1⟩ := zn c3
   (first | rw [c3b0] | (simp only [qCE, qCJ]; rw [c3b0]) | skip)
   by_cases c4 : a0 = 1
   ·rw [if_pos c4] at H
    have ⟨c4b0, c4b1⟩ := ze c4
    clear c4
    have H' := qA0.mk H
    clear H
    go_wp2
    go_meet
    case rel => exact ⟨_, ((a0 == 1)), zs, H', ⟨by first | omega | exact Nat.le_refl _⟩, by repeat (first | exact qAE.refl _ | apply qAE.step)⟩
   ·rw [if_neg c4] at H
    have ⟨c4b0, c4b1⟩ := zn c4
    by_cases c5 : a0 = 2
    ·rw [if_pos c5] at H
     have ⟨c5b0, c5b1⟩ := ze c5
     clear c5
     have H' := qA0.mk H
     clear H
     go_wp2
     go_meet
     case rel => exact ⟨_, ((a0 == 2)), zs, H', ⟨by first | omega | exact Nat.le_refl _⟩, by repeat (first | exact qAE.refl _ | apply qAE.step)⟩
    ·rw [if_neg c5] at H
     have ⟨c5b0, c5b1⟩ := zn c5
     have H' := qA0.mk H
     clear H
     go_wp2
     go_meet
     case rel => exact ⟨_, ((a0 == 3)), zs, H', ⟨by first | omega | exact Nat.le_refl _⟩, by repeat (first | exact qAE.refl _ | apply qAE.step)⟩
 case rest =>
  clear HC2
  obtain ⟨kq, x4_1, rfl, HA, HJ1, ⟨mc1, rfl⟩⟩ := hcut
  cases kq with
  | zero => exact absurd HA.out (by simp [qBD.j0])
  | succ kj1 =>
   have H := HA.out
   clear HA
   simp only [qBD.j0] at H
   by_cases c6 : x4_1 = true
   ·subst c6
    rw [if_pos rfl] at H
    obtain rfl := Option.some.inj H
    go_wp2
    go_ret
    exact ⟨by first | rfl | (simp; done) | (simp [*]; done), by repeat (first | exact qAE.refl _ | apply qAE.step)⟩
   ·replace c6 := Bool.eq_false_iff.mpr c6
    subst c6
    rw [if_neg (show ¬ (false = true) by decide)] at H
    have HC7 := qA0.mk H
    clear H
    go_upto_if 9 with (fail)
    go_cut [9] (fun v9 wc => ∃ (kq : Nat) (x9_6 : Bool), v9 = .bool x9_6 ∧ qA0 (qBD.j1 kq a0 a0 x9_6 = some r) ∧ qA0 (kq ≤ kj1) ∧ qAE w wc)
    case first =>
     have H := HC7.out
     clear HC7
     by_cases c8 : a0 = 4
     ·rw [if_pos c8] at H
      have ⟨c8b0, c8b1⟩ := ze c8
      clear c8
      (first | rw [c8b0] | (simp only [qCE, qCJ]; rw [c8b0]) | skip)
      have H' := qA0.mk H
      clear H
      go_wp2
      go_meet
      case rel => exact ⟨_, ((a0 == 4)), zs, H', ⟨by have := HJ1.out; first | omega | exact Nat.le_refl _⟩, by repeat (first | exact qAE.refl _ | apply qAE.step)⟩
     ·rw [if_neg c8] at H
      have ⟨c8b0, c8b1⟩ := zn c8
      (first | rw [c8b0] | (simp only [qCE, qCJ]; rw [c8b0]) | skip)
      by_cases c9 : a0 = 16
      ·rw [if_pos c9] at H
       have ⟨c9b0, c9b1⟩ := ze c9
       clear c9
       have H' := qA0.mk H
       clear H
       go_wp2
       go_meet
       case rel => exact ⟨_, ((a0 == 16)), zs, H', ⟨by have := HJ1.out; first | omega | exact Nat.le_refl _⟩, by repeat (first | exact qAE.refl _ | apply qAE.step)⟩
      ·rw [if_neg c9] at H
       have ⟨c9b0, c9b1⟩ := zn c9
       have H' := qA0.mk H
       clear H
       go_wp2
       go_meet
       case rel => exact ⟨_, ((a0 == 17)), zs, H', ⟨by have := HJ1.out; first | omega | exact Nat.le_refl _⟩, by repeat (first | exact qAE.refl _ | apply qAE.step)⟩
    case rest =>
     clear HC7
     obtain ⟨kq, x9_6, rfl, HA, HJ6, ⟨mc6, rfl⟩⟩ := hcut
     cases kq with
     | zero => exact absurd HA.out (by simp [qBD.j1])
     | succ kj6 =>
      have H := HA.out
      clear HA
      simp only [qBD.j1] at H
      by_cases c10 : x9_6 = true
      ·subst c10
       rw [if_pos rfl] at H
       obtain rfl := Option.some.inj H
       go_wp2
       go_ret
       exact ⟨by first | rfl | (simp; done) | (simp [*]; done), by repeat (first | exact qAE.refl _ | apply qAE.step)⟩
      ·replace c10 := Bool.eq_false_iff.mpr c10
       subst c10
       rw [if_neg (show ¬ (false = true) by decide)] at H
       by_cases c11 : a0 = 15
       ·rw [if_pos c11] at H
        have ⟨c11b0, c11b1⟩ := ze c11
        clear c11
        obtain rfl := Option.some.inj H
        go_wp2
        go_ret
        exact ⟨by first | rfl | (simp; done) | (simp [*]; done), by repeat (first | exact qAE.refl _ | apply qAE.step)⟩
       ·rw [if_neg c11] at H
        have ⟨c11b0, c11b1⟩ := zn c11
        by_cases c12 : a0 > 4
        ·rw [if_pos c12] at H
         have c12b0 := decide_eq_true c12
         clear c12
         by_cases c13 : a0 < 19
         ·rw [if_pos c13] at H
          have c13b0 := decide_eq_true c13
          clear c13
          obtain rfl := Option.some.inj H
          go_wp2
          go_ret
          exact ⟨by first | rfl | (simp; done) | (simp [*]; done), by repeat (first | exact qAE.refl _ | apply qAE.step)⟩
         ·rw [if_neg c13] at H
          have c13b0 := decide_eq_false c13
          clear c13
          obtain rfl := Option.some.inj H
          go_wp2
          go_ret
          exact ⟨by first | rfl | (simp; done) | (simp [*]; done), by repeat (first | exact qAE.refl _ | apply qAE.step)⟩
        ·rw [if_neg c12] at H
         have c12b0 := decide_eq_false c12
         clear c12
         obtain rfl := Option.some.inj H
         go_wp2
         go_ret
         exact ⟨by first | rfl | (simp; done) | (simp [*]; done), by repeat (first | exact qAE.refl _ | apply qAE.step)⟩
theorem containsOut.idx (A : Option Addr) (c : Nat) (l : List Int) (gi : Addr) (J T : Nat → World → Prop) (hJ : ∀ k W, J k W → Kd.C (Kd.int .i64) W A l.length l) (hl : l.length ≤ c)
  (hcall : ∀ k W, k < l.length → J k W → Calls Try.prog 81 #[.int .i64 (l.getD k (0 : Int)), .pointer (some gi)] W fun e W' => (e = .returned (.bool true) ∧ T k W') ∨ (e = .returned (.bool false) ∧ J (k + 1) W')) (w : World) (h0 : J 0 w) :
  Calls Try.prog 95 #[.slice A l.length c, .func (.func 81) #[] #[.pointer (some gi)]] w fun e W' => (∃ k : Nat, k < l.length ∧ e = .returned (.int .i64 (k : Int)) ∧ T k W') ∨ (e = .returned (.int .i64 (-1)) ∧ J l.length W') := by
 have hm := Kd.qEI (hJ 0 w h0)
 have H0 := qA0.mk h0
 clear h0
 go_enter Try.func95, Try.ntmps95
 go_wp2
 go_loopw [5, 8] (fun _ i wr => ∃ k : Nat, k ≤ l.length ∧ i = .int .i64 k ∧ qA0 (J k wr)) (fun _ i _ => l.length - (intOf i).toNat)
 case atStart => exact ⟨0, Nat.zero_le _, rfl, H0⟩
 case round =>
  obtain ⟨k, hk, rfl, HJ⟩ := hrel
  by_cases hlt : k < l.length
  ·have hC := hJ k wr HJ.out
   have HC := qA0.mk (hcall k wr hlt HJ.out)
   obtain ⟨ad, cs_, rfl, hcl_, hk_, hcell_⟩ := Kd.C_get hC (0 : Int) (k : Int) (by omega) (by omega)
   have h1_ : cs_ = [.int .i64 (l.getD k (0 : Int))] := hk_
   have hx0 := hcell_ 0 (.int .i64 (l.getD k (0 : Int))) (by rw [h1_]; rfl)
   rw [show (k : Int).toNat * ((Kd.int .i64)).sz + 0 = k from by simp [show ((Kd.int .i64)).sz = 1 from rfl]] at hx0
   clear hcell_ hk_ h1_ hcl_ hC hcall
   generalize l.getD k (0 : Int) = y at *
   go_wp2_with fail
   refine HC.out.mono ?_
   rintro e w' (⟨rfl, ht⟩ | ⟨rfl, hj⟩)
   ·have HT := qA0.mk ht
    clear ht
    go_wp2_with fail
    go_ret
    exact .inl ⟨k, hlt, rfl, HT.out⟩
   ·have HJ2 := qA0.mk hj
    clear hj
    go_wp2_with fail
    go_roundw
    case rel => exact ⟨k + 1, by omega, by go_num, HJ2⟩
    case measure => simp [intOf]; omega
  ·obtain rfl : k = l.length := by omega
   go_wp2_with fail
   go_ret
   exact .inr ⟨rfl, HJ.out⟩
theorem containsOut.contains (A : Option Addr) (c : Nat) (l : List Int) (gi : Addr) (J T : Nat → World → Prop) (hJ : ∀ k W, J k W → Kd.C (Kd.int .i64) W A l.length l) (hl : l.length ≤ c)
  (hcall : ∀ k W, k < l.length → J k W → Calls Try.prog 81 #[.int .i64 (l.getD k (0 : Int)), .pointer (some gi)] W fun e W' => (e = .returned (.bool true) ∧ T k W') ∨ (e = .returned (.bool false) ∧ J (k + 1) W')) (w : World) (h0 : J 0 w) :
  Calls Try.prog 80 #[.slice A l.length c, .func (.func 81) #[] #[.pointer (some gi)]] w fun e W' => (e = .returned (.bool true) ∧ ∃ k : Nat, k < l.length ∧ T k W') ∨ (e = .returned (.bool false) ∧ J l.length W') := by
 have HI := qA0.mk (containsOut.idx A c l gi J T hJ hl hcall w h0)
 clear hcall hJ h0
 go_enter Try.func80, Try.ntmps80
 go_wp2_with fail
 refine HI.out.mono ?_
 rintro e w' (⟨k, hk, rfl, ht⟩ | ⟨rfl, hj⟩)
 ·have HT := qA0.mk ht
  clear ht
  go_wp2_with fail
  go_ret
  exact .inl ⟨by simp, k, hk, HT.out⟩
 ·have HJ := qA0.mk hj
  clear hj
  go_wp2_with fail
  go_ret
  exact .inr ⟨by simp, HJ.out⟩
def qF0.f (a0 : Int) : Option (Bool) := if a0 = 1 then (some true) else (if a0 = 2 then (some true) else (if a0 = 3 then (some true) else (some (a0 == 16))))
set_option maxHeartbeats 8000000 in
set_option maxRecDepth 100000 in
theorem qF0.calls (a0 : Int) (r : Bool) (w : World) (h : qF0.f a0 = some r) :
  Calls Try.prog 82 #[.int .i64 a0] w fun e w' => e = .returned (.bool r) ∧ qAE w w' := by
 have H : (if a0 = 1 then (some true) else (if a0 = 2 then (some true) else (if a0 = 3 then (some true) else (some (a0 == 16))))) = some r := h
 clear h
 by_cases c2 : a0 = 1
 ·rw [if_pos c2] at H
  have ⟨c2b0, c2b1⟩ := ze c2
  clear c2
  obtain rfl := Option.some.inj H
  go_enter Try.func82, Try.ntmps82
  go_wp2
  go_ret
  exact ⟨by first | rfl | (simp; done) | (simp [*]; done), by repeat (first | exact qAE.refl _ | apply qAE.step)⟩
 ·rw [if_neg c2] at H
  have ⟨c2b0, c2b1⟩ := zn c2
  by_cases c3 : a0 = 2
  ·rw [if_pos c3] at H
   have ⟨c3b0, c3b1⟩ := ze c3
   clear c3
   obtain rfl := Option.some.inj H
   go_enter Try.func82, Try.ntmps82
   go_wp2
   go_ret
   exact ⟨by first | rfl | (simp; done) | (simp [*]; done), by repeat (first | exact qAE.refl _ | apply qAE.step)⟩
  ·rw [if_neg c3] at H
   have ⟨c3b0, c3b1⟩ := zn c3
   by_cases c4 : a0 = 3
   ·rw [if_pos c4] at H
    have ⟨c4b0, c4b1⟩ := ze c4
    clear c4
    obtain rfl := Option.some.inj H
    go_enter Try.func82, Try.ntmps82
    go_wp2
    go_ret
    exact ⟨by first | rfl | (simp; done) | (simp [*]; done), by repeat (first | exact qAE.refl _ | apply qAE.step)⟩
   ·rw [if_neg c4] at H
    have ⟨c4b0, c4b1⟩ := zn c4
    obtain rfl := Option.some.inj H
    go_enter Try.func82, Try.ntmps82
    go_wp2
    go_ret
    exact ⟨by first | rfl | (simp; done) | (simp [*]; done), by repeat (first | exact qAE.refl _ | apply qAE.step)⟩
def qF2 (op : Int) : Int := if op = 0 ∨ op = 1 ∨ op = 2 ∨ op = 3 then 0 else if op = 4 ∨ op = 16 ∨ op = 17 then 1 else if op = 15 then 3 else if 4 < op ∧ op < 19 then 2 else -1
def namedB (op : Int) : Bool := decide (op = 1 ∨ op = 2 ∨ op = 3 ∨ op = 16)
theorem kids_f (op : Int) : qBD.f 2 op = some (qF2 op) := by
 unfold qBD.f qF2
 by_cases h0 : op = 0
 ·subst h0; rfl
 by_cases h1 : op = 1
 ·subst h1; rfl
 by_cases h2 : op = 2
 ·subst h2; rfl
 by_cases h3 : op = 3
 ·subst h3; rfl
 by_cases h4 : op = 4
 ·subst h4; rfl
 by_cases h5 : op = 16
 ·subst h5; rfl
 by_cases h6 : op = 17
 ·subst h6; rfl
 by_cases h7 : op = 15
 ·subst h7; rfl
 by_cases h8 : 4 < op <;> by_cases h9 : op < 19 <;> simp [h0, h1, h2, h3, h4, h5, h6, h7, h8, h9, qBD.j0, qBD.j1]
theorem kids_calls (op : Int) (w : World) : Calls Try.prog 79 #[.int .i64 op] w fun e w' => e = .returned (.int .i64 (qF2 op)) ∧ qAE w w' := qBD.calls 2 op _ w (kids_f op)
theorem named_f (op : Int) : qF0.f op = some (namedB op) := by
 unfold qF0.f namedB
 by_cases h1 : op = 1 <;> by_cases h2 : op = 2 <;> by_cases h3 : op = 3 <;> by_cases h4 : op = 16 <;> simp [h1, h2, h3, h4]
theorem qD6 (op : Int) (w : World) : Calls Try.prog 82 #[.int .i64 op] w fun e w' => e = .returned (.bool (namedB op)) ∧ qAE w w' := qF0.calls op _ w (named_f op)
theorem out_calls (x i : Int) (gi : Addr) (w : World) (hc : w.cell? gi = some (.int .i64 i)) : Calls Try.prog 81 #[.int .i64 x, .pointer (some gi)] w fun e w' => e = .returned (.bool (decide (x < 0) || decide (i ≤ x))) ∧ w' = w := by
 by_cases c1 : x < 0
 ·have c1b : decide (x < 0) = true := decide_eq_true c1
  clear c1
  go_enter Try.func81, Try.ntmps81
  go_wp2
  go_ret
  exact ⟨by simp [c1b], rfl⟩
 ·have c1b : decide (x < 0) = false := decide_eq_false c1
  clear c1
  go_enter Try.func81, Try.ntmps81
  go_wp2
  go_ret
  exact ⟨by simp [c1b], rfl⟩
def outB (l : List Int) (i : Int) : Bool := l.any fun x => decide (x < 0) || decide (i ≤ x)
theorem out_all (A : Option Addr) (c : Nat) (l : List Int) (i : Int) (gi : Addr) (w : World) (hC : Kd.C (Kd.int .i64) w A l.length l) (hl : l.length ≤ c) (hc : w.cell? gi = some (.int .i64 i)) :
  Calls Try.prog 80 #[.slice A l.length c, .func (.func 81) #[] #[.pointer (some gi)]] w fun e w' => e = .returned (.bool (outB l i)) ∧ w' = w := by
 refine (containsOut.contains A c l gi (fun k W => W = w ∧ ∀ j, j < k → (decide (l.getD j 0 < 0) || decide (i ≤ l.getD j 0)) = false) (fun k W => W = w ∧ (decide (l.getD k 0 < 0) || decide (i ≤ l.getD k 0)) = true) (fun k W hW => by rw [hW.1]; exact hC) hl ?_ w ⟨rfl, fun j hj => absurd hj (by omega)⟩).mono ?_
 ·rintro k W hk ⟨rfl, hJ⟩
  refine (out_calls _ i gi W hc).mono ?_
  rintro e w' ⟨rfl, rfl⟩
  cases hb : (decide (l.getD k 0 < 0) || decide (i ≤ l.getD k 0))
  ·refine .inr ⟨rfl, rfl, fun j hj => ?_⟩
   rcases Nat.lt_or_ge j k with h | h
   ·exact hJ j h
   ·obtain rfl : j = k := by omega
    exact hb
  ·exact .inl ⟨rfl, rfl, rfl⟩
 ·rintro e w' (⟨rfl, k, hk, rfl, hb⟩ | ⟨rfl, rfl, hJ⟩)
  ·refine ⟨?_, rfl⟩
   have : outB l i = true := List.any_eq_true.2 ⟨l.getD k 0, by rw [List.getD_eq_getElem?_getD, List.getElem?_eq_getElem hk]; exact List.getElem_mem _, hb⟩
   rw [this]
  ·refine ⟨?_, rfl⟩
   have : outB l i = false := by
    apply Bool.eq_false_iff.2
    intro h
    obtain ⟨x, hx, hb⟩ := List.any_eq_true.1 h
    obtain ⟨j, hj, rfl⟩ := List.getElem_of_mem hx
    have := hJ j hj
    rw [List.getD_eq_getElem?_getD, List.getElem?_eq_getElem hj] at this
    simp only [Option.getD_some] at this
    rw [this] at hb
    cases hb
   rw [this]
def qEQ.f (op : Int) (kids : List Int) (kind n : Int) (name : ByteArray) (i : Int) : Option Int :=
 if qF2 op < 0 then some 1 else if (kids.length : Int) ≠ qF2 op then some 3 else if outB kids i = true then some 3
 else if (op ≠ 0 ∧ op ≠ 17) ∧ (kind ≠ 0 ∨ n ≠ 0) then some 3 else if namedB op = false ∧ name.toList ≠ [] then some 3
 else if op = 0 then (if kind = 0 then some 8 else qCQ.f kind n)
 else if op = 17 then (if kind < 0 ∨ 5 ≤ kind ∨ n < 1 ∨ 1099511627776 < n then some 1 else some 0)
 else if namedB op = true then (qB8.f 200 name).bind fun b => if b = true then some 0 else some 15
 else some 0
structure NodeAt (W : World) (b gi : Nat) (op : Int) (A : Option Addr) (c : Nat) (kids : List Int) (kind n : Int) (name : ByteArray) (i : Int) : Prop where
 h0 : W.cell? ⟨b, 0, none⟩ = some (.int .i64 op)
 h1 : W.cell? ⟨b, 1, none⟩ = some (.slice A kids.length c)
 h2 : W.cell? ⟨b, 2, none⟩ = some (.int .i64 kind)
 h3 : W.cell? ⟨b, 3, none⟩ = some (.int .i64 n)
 h4 : W.cell? ⟨b, 4, none⟩ = some (.string name)
 h5 : W.cell? ⟨gi, 0, none⟩ = some (.int .i64 i)
 hC : Kd.C (Kd.int .i64) W A kids.length kids
theorem NodeAt.below {W W' : World} {b gi : Nat} {op : Int} {A : Option Addr} {c : Nat} {kids : List Int} {kind n : Int} {name : ByteArray} {i : Int} (h : NodeAt W b gi op A c kids kind n name i) (hB : Below W.heap.size W W') : NodeAt W' b gi op A c kids kind n name i :=
 ⟨qAH hB h.h0, qAH hB h.h1, qAH hB h.h2, qAH hB h.h3, qAH hB h.h4, qAH hB h.h5, Kd.qAQ h.hC hB⟩
set_option maxRecDepth 100000 in
set_option maxHeartbeats 2000000 in
theorem qEQ.calls (a0_0 : Int) (A0_1 : Option Addr) (c0_1 : Nat) (l0_1 : List Int) (a0_2 : Int) (a0_3 : Int) (a0_4 : ByteArray) (a1 : Int) (r : Int) (w : World) (hr0_1 : Kd.C (Kd.int .i64) w A0_1 l0_1.length l0_1) (hc0_1 : l0_1.length ≤ c0_1) (h : qEQ.f a0_0 l0_1 a0_2 a0_3 a0_4 a1 = some r) :
  Calls Try.prog 67 #[.agg #[.int .i64 a0_0, .slice A0_1 l0_1.length c0_1, .int .i64 a0_2, .int .i64 a0_3, .string a0_4], .int .i64 a1] w fun e w' => e = .returned (.int .i64 r) ∧ Below w.heap.size w w' := by
 unfold qEQ.f at h
 have H := qA0.mk h
 have HL := qA0.mk hc0_1
 generalize hW0 : (w.alloc (.cells #[.int .i64 a0_0, .slice A0_1 l0_1.length c0_1, .int .i64 a0_2, .int .i64 a0_3, .string a0_4] 80)).alloc (.cells #[.int .i64 a1] 3) = W0
 have hB0 : Below w.heap.size w W0 := by rw [← hW0]; exact qAG (qAG (Below.refl _ _) _) _
 have hN0 : NodeAt W0 w.heap.size (w.heap.size + 1) a0_0 A0_1 c0_1 l0_1 a0_2 a0_3 a0_4 a1 := by
  refine ⟨?_, ?_, ?_, ?_, ?_, ?_, Kd.qAQ hr0_1 hB0⟩ <;> rw [← hW0] <;> simp
 have HW0 := qA0.mk hW0
 have HB := qA0.mk hB0
 have HN := qA0.mk hN0
 clear h hr0_1 hc0_1 hB0 hN0 hW0
 go_enter Try.func67, Try.ntmps67
 go_wp2_with fail
 rw [HW0.out]
 refine (kids_calls a0_0 _).mono ?_
 rintro e w1 ⟨rfl, ⟨n1, rfl⟩⟩
 by_cases c1 : qF2 a0_0 < 0
 ·have hr : r = 1 := by have := H.out; rw [if_pos c1] at this; exact (Option.some.inj this).symm
  subst hr
  have c1b : decide (qF2 a0_0 < 0) = true := decide_eq_true c1
  clear c1
  go_wp2_with fail
  go_ret
  exact ⟨rfl, qA8 HB.out n1⟩
 have H1 := qA0.mk (by have := H.out; rwa [if_neg c1] at this)
 have c1b : decide (qF2 a0_0 < 0) = false := decide_eq_false c1
 clear c1 H
 have HN1 := qA0.mk (HN.out.below (qA8 (Below.refl _ _) n1))
 have HB1 := qA0.mk (qA8 HB.out n1)
 generalize W0.drewN n1 = W1 at HN1 HB1 ⊢
 clear HN HB HW0
 obtain ⟨h0, h1, h2, h3, h4, h5, hC⟩ := HN1.out
 have HC := qA0.mk hC
 clear hC
 by_cases c2 : (l0_1.length : Int) ≠ qF2 a0_0
 ·have hr : r = 3 := by have := H1.out; rw [if_pos c2] at this; exact (Option.some.inj this).symm
  subst hr
  have c2b : ((l0_1.length : Int) != qF2 a0_0) = true := bne_iff_ne.mpr c2
  clear c2
  go_wp2_with fail
  go_quiet ((go_at_call 79; exact Calls.quiet_of ((kids_calls a0_0 _).mono fun e w' h => ⟨h.1, h.2.out⟩)))
  go_wp2_with fail
  go_ret
  exact ⟨rfl, by repeat (first | exact HB1.out | apply qA8)⟩
 have H2 := qA0.mk (by have := H1.out; rwa [if_neg c2] at this)
 have c2e : (l0_1.length : Int) = qF2 a0_0 := Decidable.not_not.mp c2
 have c2b : ((l0_1.length : Int) != qF2 a0_0) = false := bne_eq_false_iff_eq.mpr c2e
 clear c2 c2e H1
 have hq : ∀ n, Calls Try.prog 80 #[.slice A0_1 l0_1.length c0_1, .func (.func 81) #[] #[.pointer (some ⟨w.heap.size + 1, 0, none⟩)]] (W1.drewN n) fun e w' => e = .returned (.bool (outB l0_1 a1)) ∧ w' = W1.drewN n := fun n => out_all A0_1 c0_1 l0_1 a1 ⟨w.heap.size + 1, 0, none⟩ _ (Kd.qAQ HC.out (qA8 (Below.refl _ _) n)) HL.out h5
 have HQ := qA0.mk hq
 clear hq
 by_cases c3 : outB l0_1 a1 = true
 ·have hr : r = 3 := by have := H2.out; rw [if_pos c3] at this; exact (Option.some.inj this).symm
  subst hr
  go_wp2_with fail
  go_quiet (first | (go_at_call 79; exact Calls.quiet_of ((kids_calls a0_0 _).mono fun e w' h => ⟨h.1, h.2.out⟩)) | (go_at_call 80; exact Calls.quiet_of_same (HQ.out _)))
  go_wp2_with fail
  go_ret
  exact ⟨rfl, by repeat (first | exact HB1.out | apply qA8)⟩
 have H3 := qA0.mk (by have := H2.out; rwa [if_neg c3] at this)
 have c3b : outB l0_1 a1 = false := Bool.eq_false_iff.2 c3
 clear c3 H2
 go_wp2_with fail
 go_quiet (first | (go_at_call 79; exact Calls.quiet_of ((kids_calls a0_0 _).mono fun e w' h => ⟨h.1, h.2.out⟩)) | (go_at_call 80; exact Calls.quiet_of_same (HQ.out _)))
 rename_i nq
 have HN2 := qA0.mk (HN1.out.below (qA8 (Below.refl _ _) nq))
 have HB2 := qA0.mk (qA8 HB1.out nq)
 generalize W1.drewN nq = W2 at HN2 HB2 ⊢
 clear HN1 HB1 HQ HC h0 h1 h2 h3 h4 h5 c1b c2b c3b
 obtain ⟨h0, h1, h2, h3, h4, h5, hC⟩ := HN2.out
 clear hC
 by_cases d1 : a0_0 = 0
 ·have d1b : (a0_0 == 0) = true := beq_iff_eq.mpr d1
  have d1c : (a0_0 != 0) = false := bne_eq_false_iff_eq.mpr d1
  have H4 := qA0.mk (by have := H3.out; rwa [if_neg (by omega)] at this)
  have hn : namedB a0_0 = false := decide_eq_false (by omega)
  have HD := qA0.mk d1
  clear d1 H3
  by_cases d2 : a0_4.toList = []
  ·have d2b : (a0_4.toList == ([] : List UInt8)) = true := beq_iff_eq.mpr d2
   have d2c : (a0_4.toList != ([] : List UInt8)) = false := bne_eq_false_iff_eq.mpr d2
   have H5 := qA0.mk (by have := H4.out; rwa [if_neg (by simp [d2]), if_pos HD.out] at this)
   clear d2 H4
   go_wp2_with fail
   refine (qD6 a0_0 _).mono ?_
   rintro e w1 ⟨rfl, ⟨n1, rfl⟩⟩
   rw [hn]
   by_cases d3 : a0_2 = 0
   ·have hr : r = 8 := by have := H5.out; rw [if_pos d3] at this; exact (Option.some.inj this).symm
    subst hr
    have d3b : (a0_2 == 0) = true := beq_iff_eq.mpr d3
    clear d3
    go_wp2_with fail
    go_ret
    exact ⟨rfl, by repeat (first | exact HB2.out | apply qA8)⟩
   ·have H6 := qA0.mk (by have := H5.out; rwa [if_neg d3] at this)
    have d3b : (a0_2 == 0) = false := beq_eq_false_iff_ne.mpr d3
    clear d3 H5
    go_wp2_with fail
    refine (qCQ.calls a0_2 a0_3 r _ H6.out).mono ?_
    rintro e w2 ⟨rfl, hb⟩
    have HB3 := qA0.mk hb
    clear hb
    go_wp2_with fail
    go_ret
    exact ⟨rfl, qA1 (by repeat (first | exact HB2.out | apply qA8)) HB3.out⟩
  ·have hr : r = 3 := by have := H4.out; rw [if_pos ⟨hn, d2⟩] at this; exact (Option.some.inj this).symm
   subst hr
   have d2b : (a0_4.toList == ([] : List UInt8)) = false := beq_eq_false_iff_ne.mpr d2
   have d2c : (a0_4.toList != ([] : List UInt8)) = true := bne_iff_ne.mpr d2
   clear d2
   go_wp2_with fail
   refine (qD6 a0_0 _).mono ?_
   rintro e w1 ⟨rfl, ⟨n1, rfl⟩⟩
   rw [hn]
   go_wp2_with fail
   go_ret
   exact ⟨rfl, by repeat (first | exact HB2.out | apply qA8)⟩
 have d1b : (a0_0 == 0) = false := beq_eq_false_iff_ne.mpr d1
 have d1c : (a0_0 != 0) = true := bne_iff_ne.mpr d1
 by_cases d4 : a0_0 = 17
 ·have d4b : (a0_0 == 17) = true := beq_iff_eq.mpr d4
  have d4c : (a0_0 != 17) = false := bne_eq_false_iff_eq.mpr d4
  have hn : namedB a0_0 = false := decide_eq_false (by omega)
  have H4 := qA0.mk (by have := H3.out; rwa [if_neg (by omega)] at this)
  have HD := qA0.mk d4
  have HE := qA0.mk d1
  clear d4 d1 H3
  by_cases d2 : a0_4.toList = []
  ·have d2b : (a0_4.toList == ([] : List UInt8)) = true := beq_iff_eq.mpr d2
   have d2c : (a0_4.toList != ([] : List UInt8)) = false := bne_eq_false_iff_eq.mpr d2
   have H5 := qA0.mk (by have := H4.out; rwa [if_neg (by simp [d2]), if_neg HE.out, if_pos HD.out] at this)
   clear d2 H4
   go_wp2_with fail
   refine (qD6 a0_0 _).mono ?_
   rintro e w1 ⟨rfl, ⟨n1, rfl⟩⟩
   rw [hn]
   by_cases e1 : a0_2 < 0
   ·have hr : r = 1 := by have := H5.out; rw [if_pos (.inl e1)] at this; exact (Option.some.inj this).symm
    subst hr
    have e1b : decide (a0_2 < 0) = true := decide_eq_true e1
    clear e1
    go_wp2_with fail
    go_ret
    exact ⟨rfl, by repeat (first | exact HB2.out | apply qA8)⟩
   have e1b : decide (a0_2 < 0) = false := decide_eq_false e1
   by_cases e2 : 5 ≤ a0_2
   ·have hr : r = 1 := by have := H5.out; rw [if_pos (.inr (.inl e2))] at this; exact (Option.some.inj this).symm
    subst hr
    have e2b : decide (5 ≤ a0_2) = true := decide_eq_true e2
    clear e1 e2
    go_wp2_with fail
    go_ret
    exact ⟨rfl, by repeat (first | exact HB2.out | apply qA8)⟩
   have e2b : decide (5 ≤ a0_2) = false := decide_eq_false e2
   by_cases e3 : a0_3 < 1
   ·have hr : r = 1 := by have := H5.out; rw [if_pos (.inr (.inr (.inl e3)))] at this; exact (Option.some.inj this).symm
    subst hr
    have e3b : decide (a0_3 < 1) = true := decide_eq_true e3
    clear e1 e2 e3
    go_wp2_with fail
    go_ret
    exact ⟨rfl, by repeat (first | exact HB2.out | apply qA8)⟩
   have e3b : decide (a0_3 < 1) = false := decide_eq_false e3
   by_cases e4 : 1099511627776 < a0_3
   ·have hr : r = 1 := by have := H5.out; rw [if_pos (.inr (.inr (.inr e4)))] at this; exact (Option.some.inj this).symm
    subst hr
    have e4b : decide (1099511627776 < a0_3) = true := decide_eq_true e4
    clear e1 e2 e3 e4
    go_wp2_with fail
    go_ret
    exact ⟨rfl, by repeat (first | exact HB2.out | apply qA8)⟩
   have e4b : decide (1099511627776 < a0_3) = false := decide_eq_false e4
   have hr : r = 0 := by have := H5.out; rw [if_neg (by omega)] at this; exact (Option.some.inj this).symm
   subst hr
   clear e1 e2 e3 e4
   go_wp2_with fail
   refine (qD6 a0_0 _).mono ?_
   rintro e w1 ⟨rfl, ⟨n2, rfl⟩⟩
   rw [hn]
   go_wp2_with fail
   go_ret
   exact ⟨rfl, by repeat (first | exact HB2.out | apply qA8)⟩
  ·have hr : r = 3 := by have := H4.out; rw [if_pos ⟨hn, d2⟩] at this; exact (Option.some.inj this).symm
   subst hr
   have d2b : (a0_4.toList == ([] : List UInt8)) = false := beq_eq_false_iff_ne.mpr d2
   have d2c : (a0_4.toList != ([] : List UInt8)) = true := bne_iff_ne.mpr d2
   clear d2
   go_wp2_with fail
   refine (qD6 a0_0 _).mono ?_
   rintro e w1 ⟨rfl, ⟨n1, rfl⟩⟩
   rw [hn]
   go_wp2_with fail
   go_ret
   exact ⟨rfl, by repeat (first | exact HB2.out | apply qA8)⟩
 have d4b : (a0_0 == 17) = false := beq_eq_false_iff_ne.mpr d4
 have d4c : (a0_0 != 17) = true := bne_iff_ne.mpr d4
 by_cases f1 : a0_2 = 0
 case neg =>
  have hr : r = 3 := by have := H3.out; rw [if_pos ⟨⟨d1, d4⟩, .inl f1⟩] at this; exact (Option.some.inj this).symm
  subst hr
  have f1b : (a0_2 != 0) = true := bne_iff_ne.mpr f1
  clear f1 d1 d4
  go_wp2_with fail
  go_ret
  exact ⟨rfl, by repeat (first | exact HB2.out | apply qA8)⟩
 have f1b : (a0_2 != 0) = false := bne_eq_false_iff_eq.mpr f1
 by_cases f2 : a0_3 = 0
 case neg =>
  have hr : r = 3 := by have := H3.out; rw [if_pos ⟨⟨d1, d4⟩, .inr f2⟩] at this; exact (Option.some.inj this).symm
  subst hr
  have f2b : (a0_3 != 0) = true := bne_iff_ne.mpr f2
  clear f1 f2 d1 d4
  go_wp2_with fail
  go_ret
  exact ⟨rfl, by repeat (first | exact HB2.out | apply qA8)⟩
 have f2b : (a0_3 != 0) = false := bne_eq_false_iff_eq.mpr f2
 have H4 := qA0.mk (by have := H3.out; rwa [if_neg (by omega), if_neg d1, if_neg d4] at this)
 clear f1 f2 d1 d4 H3
 by_cases hn : namedB a0_0 = true
 ·have H5 := qA0.mk (by have := H4.out; rwa [if_neg (by simp [hn]), if_pos hn] at this)
  clear H4
  obtain ⟨b, hb1, hb2⟩ := Option.bind_eq_some_iff.mp H5.out
  have hk := hb1
  have HK := qA0.mk hk
  have HR := qA0.mk hb2
  clear hb1 hb2 hk H5
  go_wp2_with fail
  refine (qD6 a0_0 _).mono ?_
  rintro e w1 ⟨rfl, ⟨n1, rfl⟩⟩
  rw [hn]
  go_wp2_with fail
  refine (qD6 a0_0 _).mono ?_
  rintro e w1 ⟨rfl, ⟨n2, rfl⟩⟩
  rw [hn]
  go_wp2_with fail
  refine (qB8.calls 200 a0_4 b _ HK.out).mono ?_
  rintro e w2 ⟨rfl, hb⟩
  have HB3 := qA0.mk hb
  clear hb
  cases b
  ·have hr : r = 15 := by have := HR.out; simp at this; exact this.symm
   subst hr
   go_wp2_with fail
   go_ret
   exact ⟨rfl, qA1 (by repeat (first | exact HB2.out | apply qA8)) HB3.out⟩
  ·have hr : r = 0 := by have := HR.out; simp at this; exact this.symm
   subst hr
   go_wp2_with fail
   go_ret
   exact ⟨rfl, qA1 (by repeat (first | exact HB2.out | apply qA8)) HB3.out⟩
 ·have hn := Bool.eq_false_iff.2 hn
  by_cases d2 : a0_4.toList = []
  ·have hr : r = 0 := by have := H4.out; rw [if_neg (by simp [d2]), if_neg (by simp [hn])] at this; exact (Option.some.inj this).symm
   subst hr
   have d2b : (a0_4.toList == ([] : List UInt8)) = true := beq_iff_eq.mpr d2
   have d2c : (a0_4.toList != ([] : List UInt8)) = false := bne_eq_false_iff_eq.mpr d2
   clear d2 H4
   go_wp2_with fail
   refine (qD6 a0_0 _).mono ?_
   rintro e w1 ⟨rfl, ⟨n1, rfl⟩⟩
   rw [hn]
   go_wp2_with fail
   refine (qD6 a0_0 _).mono ?_
   rintro e w1 ⟨rfl, ⟨n2, rfl⟩⟩
   rw [hn]
   go_wp2_with fail
   go_ret
   exact ⟨rfl, by repeat (first | exact HB2.out | apply qA8)⟩
  ·have hr : r = 3 := by have := H4.out; rw [if_pos ⟨hn, d2⟩] at this; exact (Option.some.inj this).symm
   subst hr
   have d2b : (a0_4.toList == ([] : List UInt8)) = false := beq_eq_false_iff_ne.mpr d2
   have d2c : (a0_4.toList != ([] : List UInt8)) = true := bne_iff_ne.mpr d2
   clear d2
   go_wp2_with fail
   refine (qD6 a0_0 _).mono ?_
   rintro e w1 ⟨rfl, ⟨n1, rfl⟩⟩
   rw [hn]
   go_wp2_with fail
   go_ret
   exact ⟨rfl, by repeat (first | exact HB2.out | apply qA8)⟩
def qAI.l0 : Nat → List Int → Int → Int → Int → Option (Int)
 | 0, _, _, _, _ => none
 | k + 1, x0, x1, x7, x8 => if x8 < x7 then (if 0 ≤ x8 then (if x8 < (x0.length : Int) then (if x1 = (rd x0 x8) then (some x8) else (qAI.l0 k x0 x1 x7 (wrap64 (x8 + 1)))) else (none)) else (none)) else (some (-1))
def qAI.f (k : Nat) (l0 : List Int) (a1 : Int) : Option (Int) := qAI.l0 k l0 a1 (l0.length : Int) 0
theorem qAI.qBY : ∀ k, (∀ y0 y1 y2 y3, LeO (qAI.l0 k y0 y1 y2 y3) (qAI.l0 (k + 1) y0 y1 y2 y3))
 | 0 => fun _ _ _ _ r h => by simp [qAI.l0] at h
 | k + 1 => by
  have ih0 := qAI.qBY k
  ·intro y0 y1 y2 y3
   unfold qAI.l0
   exact zm
theorem qAI.mono : ∀ a0 a1 k, LeO (qAI.f k a0 a1) (qAI.f (k + 1) a0 a1) := by
 intro a0 a1 k
 have ih0 := qAI.qBY k
 unfold qAI.f
 exact zm
set_option maxHeartbeats 8000000 in
set_option maxRecDepth 100000 in
theorem qAI.calls (k : Nat) (A0 : Option Addr) (c0 : Nat) (l0 : List Int) (a1 : Int) (r : Int) (w : World) (hr0 : Kd.C (Kd.int .i64) w A0 l0.length l0) (hc0 : l0.length ≤ c0) (h : qAI.f k l0 a1 = some r) :
  Calls Try.prog 83 #[.slice A0 l0.length c0, .int .i64 a1] w fun e w' => e = .returned (.int .i64 r) ∧ qAE w w' := by
 have HR0 := qA0.mk hr0
 have HC0 := qA0.mk hc0
 clear hr0 hc0
 have H : (qAI.l0 k l0 a1 (l0.length : Int) 0) = some r := h
 clear h
 have H' := qA0.mk H
 clear H
 go_enter Try.func83, Try.ntmps83
 go_wp2
 go_loopg [8] k (fun kq v8 w' => ∃ (x8_1 : Int), v8 = .int .i64 x8_1 ∧ qA0 (qAI.l0 kq l0 a1 (l0.length : Int) x8_1 = some r) ∧ qA0 (kq ≤ k) ∧ qAE w w')
 case atStart => exact ⟨(0), zs, H', ⟨Nat.le_refl _⟩, by repeat (first | exact qAE.refl _ | apply qAE.step)⟩
 case round =>
  clear H'
  obtain ⟨x8_1, rfl, HA, HK1, ⟨m1, rfl⟩⟩ := hrel
  cases gk with
  | zero => exact absurd HA.out (by simp [qAI.l0])
  | succ k1 =>
   have H := HA.out
   clear HA
   simp only [qAI.l0] at H
   by_cases c3 : x8_1 < (l0.length : Int)
   ·rw [if_pos c3] at H
    have c3b0 := decide_eq_true c3
    clear c3
    by_cases c4 : 0 ≤ x8_1
    ·rw [if_pos c4] at H
     have c4b0 := decide_eq_true c4
     clear c4
     by_cases c5 : x8_1 < (l0.length : Int)
     ·rw [if_pos c5] at H
      have c5b0 := decide_eq_true c5
      clear c5
      by_cases c6 : a1 = (rd l0 x8_1)
      ·rw [if_pos c6] at H
       have ⟨c6b0, c6b1⟩ := ze c6
       clear c6
       obtain rfl := Option.some.inj H
       have p150 : 0 ≤ (x8_1 : Int) := zd
       have q150 : x8_1 < (l0.length : Int) := zd
       obtain ⟨ad150, e150, hx150_0⟩ := Kd.qCF HR0.out x8_1 p150 q150
       cases e150
       replace p150 := eq_true p150
       replace q150 := eq_true q150
       go_wp2
       go_ret
       exact ⟨by first | rfl | (simp; done) | (simp [*]; done), by repeat (first | exact qAE.refl _ | apply qAE.step)⟩
      ·rw [if_neg c6] at H
       have ⟨c6b0, c6b1⟩ := zn c6
       have H' := qA0.mk H
       clear H
       have p150 : 0 ≤ (x8_1 : Int) := zd
       have q150 : x8_1 < (l0.length : Int) := zd
       obtain ⟨ad150, e150, hx150_0⟩ := Kd.qCF HR0.out x8_1 p150 q150
       cases e150
       replace p150 := eq_true p150
       replace q150 := eq_true q150
       go_wp2
       go_roundg k1
       case measure => have := HK1.out; omega
       case rel => exact ⟨(wrap64 (x8_1 + 1)), zs, H', ⟨by have := HK1.out; omega⟩, by repeat (first | exact qAE.refl _ | apply qAE.step)⟩
     ·rw [if_neg c5] at H
      exact absurd H (by simp)
    ·rw [if_neg c4] at H
     exact absurd H (by simp)
   ·rw [if_neg c3] at H
    have c3b0 := decide_eq_false c3
    clear c3
    obtain rfl := Option.some.inj H
    go_wp2
    go_ret
    exact ⟨by first | rfl | (simp; done) | (simp [*]; done), by repeat (first | exact qAE.refl _ | apply qAE.step)⟩
end
end Go.Proofs.Ytnliaialemfcaaa.PRateFinds
end
section
namespace Go.Proofs.Ytnliaialemfcaaa.PRateFinds
noncomputable section
open Go.RowKit Go.Proofs.YtnliaialemfcaaaW.PrintWords Go.Proofs.YtnliaialemfcaaaW.PrintLast Go.Proofs.YtnliaialemfcaaaW.PrintMore
def qAX.f (k : Nat) (l0 : List Int) (a1 : Int) : Option (Bool) := (qAI.f k l0 a1).bind fun t151 => (some (decide (t151 ≥ 0)))
theorem qAX.mono : ∀ a0 a1 k, LeO (qAX.f k a0 a1) (qAX.f (k + 1) a0 a1) := by
 intro a0 a1 k
 unfold qAX.f
 have im0 := @qAI.mono
 exact zm
set_option maxHeartbeats 8000000 in
set_option maxRecDepth 100000 in
theorem qAX.calls (k : Nat) (A0 : Option Addr) (c0 : Nat) (l0 : List Int) (a1 : Int) (r : Bool) (w : World) (hr0 : Kd.C (Kd.int .i64) w A0 l0.length l0) (hc0 : l0.length ≤ c0) (h : qAX.f k l0 a1 = some r) :
  Calls Try.prog 68 #[.slice A0 l0.length c0, .int .i64 a1] w fun e w' => e = .returned (.bool r) ∧ qAE w w' := by
 have HR0 := qA0.mk hr0
 have HC0 := qA0.mk hc0
 clear hr0 hc0
 have H : ((qAI.f k l0 a1).bind fun t151 => (some (decide (t151 ≥ 0)))) = some r := h
 clear h
 replace H := Option.bind_eq_some_iff.mp H
 obtain ⟨t151, A30, H⟩ := H
 have A3 := qA0.mk A30
 clear A30
 obtain rfl := Option.some.inj H
 go_enter Try.func68, Try.ntmps68
 go_wp2_with (((with_reducible refine qA9 (f := 83) rfl ?_); refine qC2 (some 7) Try.func83 #[.slice A0 l0.length c0, .int .i64 a1] ?_; (with_reducible refine (qAI.calls k _ _ l0 a1 t151 _ ?side1 ?side2 A3.out).mono ?_); (case side1 => repeat (first | exact HR0.out | refine sC ?_)); (case side2 => exact HC0.out); rintro e w' ⟨rfl, ⟨nd, rfl⟩⟩; refine ⟨_, rfl, ?_⟩))
 go_ret
 exact ⟨by first | rfl | (simp; done) | (simp [*]; done), by repeat (first | exact qAE.refl _ | apply qAE.step)⟩
mutual
def qAV.l0 : Nat → List (S80) → List Int → List (S80) → Int → Int → Option (Int)
 | 0, _, _, _, _, _ => none
 | k + 1, x0, x3, x18, x19, x20 => if x20 < x19 then (if 0 ≤ x20 then (if x20 < (x18.length : Int) then ((qEQ.f ((qA2 x18 x20).f0) ((qA2 x18 x20).f1) ((qA2 x18 x20).f2) ((qA2 x18 x20).f3) ((qA2 x18 x20).f4) x20).bind fun t162 => (if t162 = 0 then (qAV.l1 k x0 x3 x18 x19 x20 ((qA2 x18 x20).f1) (((qA2 x18 x20).f1).length : Int) 0) else (some t162))) else (none)) else (none)) else (if 0 ≤ (wrap64 ((x0.length : Int) - 1)) then (if (wrap64 ((x0.length : Int) - 1)) ≤ (x3.length : Int) then ((qAX.f k (x3.take ((wrap64 ((x0.length : Int) - 1)) : Int).toNat) 0).bind fun t159 => (if t159 = true then (some 3) else (some 0))) else (none)) else (none))
def qAV.l1 : Nat → List (S80) → List Int → List (S80) → Int → Int → List Int → Int → Int → Option (Int)
 | 0, _, _, _, _, _, _, _, _ => none
 | k + 1, x0, x3, x18, x19, x20, x32, x33, x34 => if x34 < x33 then (if 0 ≤ x34 then (if x34 < (x32.length : Int) then (if 0 ≤ (rd x32 x34) then (if (rd x32 x34) < (x3.length : Int) then ((some (x3.set ((rd x32 x34) : Int).toNat (wrap64 ((rd x3 (rd x32 x34)) + 1)) : List Int)).bind fun y165 => (if (rd y165 (rd x32 x34)) > 1 then (some 3) else (qAV.l1 k x0 y165 x18 x19 x20 x32 x33 (wrap64 (x34 + 1))))) else (none)) else (none)) else (none)) else (none)) else (qAV.l0 k x0 x3 x18 x19 (wrap64 (x20 + 1)))
end
def qAV.f (k : Nat) (l0 : List (S80)) : Option (Int) := if (l0.length : Int) > 100 then (some 2) else (if (l0.length : Int) = 0 then (some 4) else (if 0 ≤ (l0.length : Int) then (if ((l0.length : Int) : Int).toNat ≤ 35184372088832 then (qAV.l0 k l0 (List.replicate ((l0.length : Int) : Int).toNat 0) l0 (l0.length : Int) 0) else (none)) else (none)))
theorem qAV.qBY : ∀ k, (∀ y0 y1 y2 y3 y4, LeO (qAV.l0 k y0 y1 y2 y3 y4) (qAV.l0 (k + 1) y0 y1 y2 y3 y4)) ∧ (∀ y0 y1 y2 y3 y4 y5 y6 y7, LeO (qAV.l1 k y0 y1 y2 y3 y4 y5 y6 y7) (qAV.l1 (k + 1) y0 y1 y2 y3 y4 y5 y6 y7))
 | 0 => ⟨fun _ _ _ _ _ r h => by simp [qAV.l0] at h, fun _ _ _ _ _ _ _ _ r h => by simp [qAV.l1] at h⟩
 | k + 1 => by
  obtain ⟨ih0, ih1⟩ := qAV.qBY k
  refine ⟨?_, ?_⟩
  ·intro y0 y1 y2 y3 y4
   unfold qAV.l0
   have im0 := @qAX.mono
   exact zm
  ·intro y0 y1 y2 y3 y4 y5 y6 y7
   unfold qAV.l1
   have im0 := @qAX.mono
   exact zm
theorem qAV.mono : ∀ a0 k, LeO (qAV.f k a0) (qAV.f (k + 1) a0) := by
 intro a0 k
 obtain ⟨ih0, ih1⟩ := qAV.qBY k
 unfold qAV.f
 have im0 := @qAX.mono
 exact zm
set_option maxHeartbeats 8000000 in
set_option maxRecDepth 100000 in
theorem qAV.calls (k : Nat) (A0 : Option Addr) (c0 : Nat) (l0 : List (S80)) (r : Int) (w : World) (hr0 : Kd.C k80 w A0 l0.length l0) (hc0 : l0.length ≤ c0) (h : qAV.f k l0 = some r) :
  Calls Try.prog 51 #[.slice A0 l0.length c0] w fun e w' => e = .returned (.int .i64 r) ∧ Below w.heap.size w w' := by
 have hu80 := Try.underlying80
 have HR0 := qA0.mk hr0
 have HC0 := qA0.mk hc0
 clear hr0 hc0
 have HB := qA0.mk (Below.refl w.heap.size w)
 have H : (if (l0.length : Int) > 100 then (some 2) else (if (l0.length : Int) = 0 then (some 4) else (if 0 ≤ (l0.length : Int) then (if ((l0.length : Int) : Int).toNat ≤ 35184372088832 then (qAV.l0 k l0 (List.replicate ((l0.length : Int) : Int).toNat 0) l0 (l0.length : Int) 0) else (none)) else (none)))) = some r := h
 clear h
 by_cases c2 : (l0.length : Int) > 100
 ·rw [if_pos c2] at H
  have c2b0 := decide_eq_true c2
  have c2b1 : decide (100 < l0.length) = true := decide_eq_true (by omega)
  clear c2
  obtain rfl := Option.some.inj H
  go_enter Try.func51, Try.ntmps51
  go_wp2
  go_ret
  exact ⟨zf, zb⟩
 ·rw [if_neg c2] at H
  have c2b0 := decide_eq_false c2
  have c2b1 : decide (100 < l0.length) = false := decide_eq_false (by omega)
  clear c2
  by_cases c3 : (l0.length : Int) = 0
  ·rw [if_pos c3] at H
   have ⟨c3b0, c3b1⟩ := ze c3
   clear c3
   obtain rfl := Option.some.inj H
   go_enter Try.func51, Try.ntmps51
   go_wp2
   go_ret
   exact ⟨zf, zb⟩
  ·rw [if_neg c3] at H
   have ⟨c3b0, c3b1⟩ := zn c3
   have c3b2 : ¬ (l0 = []) := fun h_ => c3 (by rw [h_]; rfl)
   by_cases c4 : 0 ≤ (l0.length : Int)
   ·rw [if_pos c4] at H
    have c4b0 := eq_true c4
    have c4b1 := decide_eq_true c4
    clear c4
    by_cases c5 : ((l0.length : Int) : Int).toNat ≤ 35184372088832
    ·rw [if_pos c5] at H
     have c5b0 := eq_true c5
     have c5b1 := decide_eq_true c5
     clear c5
     obtain ⟨y152, hy_⟩ : ∃ y_ : List Int, y_ = (List.replicate ((l0.length : Int) : Int).toNat 0) := ⟨_, rfl⟩
     replace H : (qAV.l0 k l0 y152 l0 (l0.length : Int) 0) = some r := zr
     have Ny152 := qA0.mk hy_
     clear hy_
     have H' := qA0.mk H
     clear H
     go_enter Try.func51, Try.ntmps51
     go_wp2_with (((with_reducible refine qAC (N := 17) rfl ?_); refine Kd.R_make (Kd.int .i64) _ 3 rfl (N := 17) rfl 78 _ _ rfl (l0.length : Int) rfl rfl Try.underlying78 (.int .i64 0) 8 info3 rfl (by decide) (by omega) 0 (ok := fun _ => True) (okp := fun _ => True) rfl (fun _ hk => hk) trivial (zd) (Nat.le_trans (Nat.mul_le_mul_right _ (zd : (l0.length : Int).toNat ≤ 35184372088832)) (by omega)) (Below.refl _ _) (Nat.le_refl _) ?_; intro v153 w6 ho7 hb hg_ hnew_; clear hg_ hnew_; (first | rw [← Ny152.out] at ho7 | (simp only [Int.reduceToNat] at ho7; rw [← Ny152.out] at ho7)); have HO154 := qA0.mk (Kd.qC9 ho7 (qAM zb)); replace HB := qA0.mk (qA1 zb hb); clear hb ho7))
     go_loopg [20] k (fun kq v20 w' => ∃ (x3_1 : List Int) (x20_1 : Int), v20 = .int .i64 x20_1 ∧ qA0 (qAV.l0 kq l0 x3_1 l0 (l0.length : Int) x20_1 = some r) ∧ qA0 (kq ≤ k) ∧ qA0 (Kd.R (Kd.int .i64) 3 w' w.heap.size (fun _ => True) v153 x3_1) ∧ qA0 (Below w.heap.size w w'))
     case atStart => exact ⟨(y152), (0), zs, H', ⟨Nat.le_refl _⟩, zR HO154, ⟨zb⟩⟩
     case round =>
      clear H' c2b0 c2b1 c3 c3b0 c3b1 c3b2 c4b0 c4b1 c5b0 c5b1
      obtain ⟨x3_1, x20_1, rfl, HA, HK1, HO_3, HB⟩ := hrel
      cases gk with
      | zero => exact absurd HA.out (by simp [qAV.l0])
      | succ k1 =>
       have H := HA.out
       clear HA
       simp only [qAV.l0] at H
       by_cases c8 : x20_1 < (l0.length : Int)
       ·rw [if_pos c8] at H
        have c8b0 := decide_eq_true c8
        clear c8
        by_cases c9 : 0 ≤ x20_1
        ·rw [if_pos c9] at H
         have c9b0 := decide_eq_true c9
         clear c9
         by_cases c10 : x20_1 < (l0.length : Int)
         ·rw [if_pos c10] at H
          have c10b0 := decide_eq_true c10
          clear c10
          replace H := Option.bind_eq_some_iff.mp H
          obtain ⟨t162, A110, H⟩ := H
          have A11 := qA0.mk A110
          clear A110
          by_cases c12 : t162 = 0
          ·rw [if_pos c12] at H
           have ⟨c12b0, c12b1⟩ := ze c12
           clear c12
           have H' := qA0.mk H
           clear H
           have p160 : 0 ≤ (x20_1 : Int) := zd
           have q160 : x20_1 < (l0.length : Int) := zd
           obtain ⟨ad160, A160_1, c160_1, e160, hx160_0, hx160_1, hx160_2, hx160_3, hx160_4, hl160_1, hi160_1⟩ := at_T80 HR0.out x20_1 p160 q160
           cases e160
           (try replace hx160_0 := zh hx160_0)
           replace hx160_1 := zh hx160_1
           replace hx160_2 := zh hx160_2
           replace hx160_3 := zh hx160_3
           replace hx160_4 := zh hx160_4
           have HR160_1 := qA0.mk hi160_1
           have HC160_1 := qA0.mk hl160_1
           clear hi160_1 hl160_1
           replace p160 := eq_true p160
           replace q160 := eq_true q160
           go_wp2_with (first | ((with_reducible refine qAC (N := 5) rfl ?_); refine qAD ?hg (N := 5) ?hd (cs := #[.int .i64 0, .slice none 0 0, .int .i64 0, .int .i64 0, .string (⟨#[]⟩ : ByteArray)]) (t := 80) ?hr ?_; (case hd => rfl); (case hg => rfl); (case hr => first | (go_simp; done) | (go_simp; rfl)); intro gb161 hg w13 hbox hb; have BK161 := qA0.mk (hbox); have GW161 := zg w gb161; have GE161 := zg w gb161; replace HO_3 := qA0.mk (Kd.qBC (by (with_reducible repeat refine sR ?_); exact HO_3.out) hb); replace HB := qA0.mk (qA1 zb hb); clear hb hbox hg; obtain ⟨hcz14_0, hcz14_1, hcz14_2, hcz14_3, hcz14_4, hfz14_0, hfz14_1, hfz14_2, hfz14_3, hfz14_4⟩ := bc5 BK161.out) | ((with_reducible refine qA9 (f := 67) rfl ?_); refine qC2 (some 27) Try.func67 #[.agg #[.int .i64 ((qA2 l0 x20_1).f0), .slice A160_1 ((qA2 l0 x20_1).f1).length c160_1, .int .i64 ((qA2 l0 x20_1).f2), .int .i64 ((qA2 l0 x20_1).f3), .string ((qA2 l0 x20_1).f4)], .int .i64 x20_1] ?_; (with_reducible refine (qEQ.calls ((qA2 l0 x20_1).f0) _ _ ((qA2 l0 x20_1).f1) ((qA2 l0 x20_1).f2) ((qA2 l0 x20_1).f3) ((qA2 l0 x20_1).f4) x20_1 t162 _ ?side1 ?side2 A11.out).mono ?_); (case side1 => exact Kd.qAQ HR160_1.out zb); (case side2 => exact HC160_1.out); rintro e w15 ⟨rfl, hb⟩; refine ⟨_, rfl, ?_⟩; replace HO_3 := qA0.mk (Kd.qBC (by (with_reducible repeat refine sR ?_); exact (Kd.qB6 (Kd.qAS (Kd.qAS (Kd.qAS (Kd.qAS (Kd.qAS (Kd.qBZ HO_3.out BK161.out (by decide)) (fun _ hk => hk.2) _) (fun _ hk => hk.2) _) (fun _ hk => hk.2) _) (fun _ hk => hk.2) _) (fun _ hk => hk.2) _) (fun _ h_ => h_.1))) hb); replace BK161 := qA0.mk (qA5 (g := gb161) (o := .cells #[.int .i64 ((qA2 l0 x20_1).f0), .slice A160_1 ((qA2 l0 x20_1).f1).length c160_1, .int .i64 ((qA2 l0 x20_1).f2), .int .i64 ((qA2 l0 x20_1).f3), .string ((qA2 l0 x20_1).f4)] 80 (0, 0)) (by (with_reducible repeat refine st ?_); refine qAJ (cs := #[.int .i64 ((qA2 l0 x20_1).f0), .slice A160_1 ((qA2 l0 x20_1).f1).length c160_1, .int .i64 ((qA2 l0 x20_1).f2), .int .i64 ((qA2 l0 x20_1).f3), .string (⟨#[]⟩ : ByteArray)]) ?_ 4 _ rfl; (with_reducible repeat refine st ?_); refine qAJ (cs := #[.int .i64 ((qA2 l0 x20_1).f0), .slice A160_1 ((qA2 l0 x20_1).f1).length c160_1, .int .i64 ((qA2 l0 x20_1).f2), .int .i64 0, .string (⟨#[]⟩ : ByteArray)]) ?_ 3 _ rfl; (with_reducible repeat refine st ?_); refine qAJ (cs := #[.int .i64 ((qA2 l0 x20_1).f0), .slice A160_1 ((qA2 l0 x20_1).f1).length c160_1, .int .i64 0, .int .i64 0, .string (⟨#[]⟩ : ByteArray)]) ?_ 2 _ rfl; (with_reducible repeat refine st ?_); refine qAJ (cs := #[.int .i64 ((qA2 l0 x20_1).f0), .slice none 0 0, .int .i64 0, .int .i64 0, .string (⟨#[]⟩ : ByteArray)]) ?_ 1 _ rfl; (with_reducible repeat refine st ?_); refine qAJ (cs := #[.int .i64 0, .slice none 0 0, .int .i64 0, .int .i64 0, .string (⟨#[]⟩ : ByteArray)]) ?_ 0 _ rfl; (with_reducible repeat refine st ?_); exact BK161.out) hb); replace HB := qA0.mk (qA1 zb hb); (try clear hb); (try clear hb2); (try clear hk); (try clear hi); obtain ⟨hcz16_0, hcz16_1, hcz16_2, hcz16_3, hcz16_4, hfz16_0, hfz16_1, hfz16_2, hfz16_3, hfz16_4⟩ := bc5 BK161.out))
           go_loopg [34] k1 (fun kq v34 w' => ∃ (x3_2 : List Int) (x34_2 : Int), v34 = .int .i64 x34_2 ∧ qA0 (qAV.l1 kq l0 x3_2 l0 (l0.length : Int) x20_1 ((qA2 l0 x20_1).f1) (((qA2 l0 x20_1).f1).length : Int) x34_2 = some r) ∧ qA0 (kq ≤ k1) ∧ qA0 (Kd.R (Kd.int .i64) 3 w' w.heap.size (fun _ => True) v153 x3_2) ∧ qA0 (w'.heap[gb161]? = some (.cells #[.int .i64 ((qA2 l0 x20_1).f0), (.slice A160_1 ((qA2 l0 x20_1).f1).length c160_1), .int .i64 ((qA2 l0 x20_1).f2), .int .i64 ((qA2 l0 x20_1).f3), .string ((qA2 l0 x20_1).f4)] 80 (0, 0))) ∧ qA0 (Below w.heap.size w w'))
           case atStart => exact ⟨(x3_1), (0), zs, H', ⟨Nat.le_refl _⟩, zR HO_3, ⟨zk BK161⟩, ⟨zb⟩⟩
           case round =>
            clear H' c8b0 c9b0 c10b0 c12b0 c12b1 hcz14_0 hcz14_1 hcz14_2 hcz14_3 hcz14_4 hcz16_0 hcz16_1 hcz16_2 hcz16_3 hcz16_4 hfz14_0 hfz14_1 hfz14_2 hfz14_3 hfz14_4 hfz16_0 hfz16_1 hfz16_2 hfz16_3 hfz16_4 hx160_0 hx160_1 hx160_2 hx160_3 hx160_4 p160 q160
            obtain ⟨x3_2, x34_2, rfl, HA, HK2, HO_3, BK161, HB⟩ := hrel
            cases gk with
            | zero => exact absurd HA.out (by simp [qAV.l1])
            | succ k2 =>
             have H := HA.out
             clear HA
             simp only [qAV.l1] at H
             by_cases c17 : x34_2 < (((qA2 l0 x20_1).f1).length : Int)
             ·rw [if_pos c17] at H
              have c17b0 := decide_eq_true c17
              clear c17
              by_cases c18 : 0 ≤ x34_2
              ·rw [if_pos c18] at H
               have c18b0 := decide_eq_true c18
               clear c18
               by_cases c19 : x34_2 < (((qA2 l0 x20_1).f1).length : Int)
               ·rw [if_pos c19] at H
                have c19b0 := decide_eq_true c19
                clear c19
                by_cases c20 : 0 ≤ (rd ((qA2 l0 x20_1).f1) x34_2)
                ·rw [if_pos c20] at H
                 have c20b0 := decide_eq_true c20
                 clear c20
                 by_cases c21 : (rd ((qA2 l0 x20_1).f1) x34_2) < (x3_2.length : Int)
                 ·rw [if_pos c21] at H
                  have c21b0 := decide_eq_true c21
                  clear c21
                  obtain ⟨y165, hy_⟩ : ∃ y_ : List Int, y_ = (x3_2.set ((rd ((qA2 l0 x20_1).f1) x34_2) : Int).toNat (wrap64 ((rd x3_2 (rd ((qA2 l0 x20_1).f1) x34_2)) + 1))) := ⟨_, rfl⟩
                  replace H : (if (rd y165 (rd ((qA2 l0 x20_1).f1) x34_2)) > 1 then (some 3) else (qAV.l1 k2 l0 y165 l0 (l0.length : Int) x20_1 ((qA2 l0 x20_1).f1) (((qA2 l0 x20_1).f1).length : Int) (wrap64 (x34_2 + 1)))) = some r := zr
                  have Ny165 := qA0.mk hy_
                  clear hy_
                  by_cases c23 : (rd y165 (rd ((qA2 l0 x20_1).f1) x34_2)) > 1
                  ·rw [if_pos c23] at H
                   have c23b0 := decide_eq_true c23
                   clear c23
                   obtain rfl := Option.some.inj H
                   have p163 : 0 ≤ (x34_2 : Int) := zd
                   have q163 : x34_2 < (((qA2 l0 x20_1).f1).length : Int) := zd
                   obtain ⟨ad163, e163, hx163_0⟩ := Kd.qCF HR160_1.out x34_2 p163 q163
                   cases e163
                   (try replace hx163_0 := zh hx163_0)
                   replace p163 := eq_true p163
                   replace q163 := eq_true q163
                   obtain ⟨Ao24, co24, eo24⟩ := Kd.qBW HO_3.out
                   subst eo24
                   have p164 : 0 ≤ ((rd ((qA2 l0 x20_1).f1) x34_2) : Int) := zd
                   have q164 : (rd ((qA2 l0 x20_1).f1) x34_2) < (x3_2.length : Int) := zd
                   obtain ⟨ad164, e164, hx164_0⟩ := Kd.qCF (Kd.qAU HO_3.out).2.2 (rd ((qA2 l0 x20_1).f1) x34_2) p164 q164
                   cases e164
                   replace p164 := eq_true p164
                   replace q164 := eq_true q164
                   have p22 : 0 ≤ ((rd ((qA2 l0 x20_1).f1) x34_2) : Int) := zd
                   have q22 : ((rd ((qA2 l0 x20_1).f1) x34_2) : Int) < ((x3_2.length : Int) : Int) := zd
                   obtain ⟨go22, co22, eo22, gb22, gl22, cl22, HG22⟩ := Kd.R_form HO_3.out (by omega)
                   (first | cases eo22 | (injection eo22 with ea_ en_ ec_; (first | subst ea_ | (injection ea_ with ea_; subst ea_)); subst ec_; clear en_))
                   have GB22 := qA0.mk gb22
                   have GG22 := qA0.mk HG22
                   clear gb22 gl22 HG22
                   (first | simp only [add_plain] at hx164_0 | skip)
                   obtain ⟨hx22_0, hf22_0⟩ := Kd.R_celln 0 HO_3.out ((rd ((qA2 l0 x20_1).f1) x34_2) : Int) p22 q22
                   replace p22 := eq_true p22
                   replace q22 := eq_true q22
                   have HP25 := Kd.R_putg HO_3.out ((rd ((qA2 l0 x20_1).f1) x34_2) : Int) (wrap64 ((rd x3_2 (rd ((qA2 l0 x20_1).f1) x34_2)) + 1))
                   go_wp2_with (((with_reducible refine qCB (t := 3) (p := 43) rfl ?_); refine qDK (t := 3) (p := 43) (v := ?vo_w26) (w1 := (wr.setCell ⟨go22, ((rd ((qA2 l0 x20_1).f1) x34_2) : Int).toNat, none⟩ (.int .i64 (wrap64 ((rd x3_2 (rd ((qA2 l0 x20_1).f1) x34_2)) + 1))))) ?hg ?ho ?hn ?hr ?_; (case ho => rfl); (case hg => rfl); (case hn => rfl); (case hr => first | (go_simp; done) | (go_simp; rfl)); intro w26 hw; have hg : wr.grownBy w26 (some go22) := (by rw [hw]; exact HP25.2); have hp_ : Kd.R (Kd.int .i64) 3 w26 w.heap.size (fun _ => True) (.slice (some ⟨go22, 0, none⟩) x3_2.length co24) y165 := (by rw [hw, Ny165.out]; exact HP25.1); clear HP25; replace BK161 := qA0.mk (qAN (g := gb161) (o := .cells #[.int .i64 ((qA2 l0 x20_1).f0), .slice (some ad163) ((qA2 l0 x20_1).f1).length c160_1, .int .i64 ((qA2 l0 x20_1).f2), .int .i64 ((qA2 l0 x20_1).f3), .string ((qA2 l0 x20_1).f4)] 80 (0, 0)) (zk BK161) hg (Kd.R_ne HO_3.out BK161.out (by decide))); replace HO_3 := qA0.mk (hp_); replace HB := qA0.mk ((by rw [hw]; exact qDN (HB.out) GB22.out : Below w.heap.size w w26)); clear hg hw hp_; have p166 : 0 ≤ ((rd ((qA2 l0 x20_1).f1) x34_2) : Int) := zd; have q166 : (rd ((qA2 l0 x20_1).f1) x34_2) < (y165.length : Int) := (by have h_ : ((rd ((qA2 l0 x20_1).f1) x34_2) : Int) < ((x3_2.length : Int) : Int) := zd; first | (have e_ := (Kd.qAU HO_3.out).1; omega) | simpa only [Ny165.out, List.length_set] using h_); have ql166 : (((rd ((qA2 l0 x20_1).f1) x34_2) : Int) < ((x3_2.length : Int) : Int)) = True := eq_true (zd); obtain ⟨ad166, e166, hx166_0⟩ := Kd.qCF (Kd.qAU HO_3.out).2.2 (rd ((qA2 l0 x20_1).f1) x34_2) p166 q166; obtain rfl : (⟨go22, 0, none⟩ : Addr) = ad166 := (by injection e166); (first | simp only [add_plain] at hx166_0 | simp only [add_at] at hx166_0 | simp only [Addr.add, Nat.zero_add] at hx166_0 | skip); replace p166 := eq_true p166; replace q166 := eq_true q166))
                   go_ret
                   exact ⟨zf, zb⟩
                  ·rw [if_neg c23] at H
                   have c23b0 := decide_eq_false c23
                   clear c23
                   have H' := qA0.mk H
                   clear H
                   have p163 : 0 ≤ (x34_2 : Int) := zd
                   have q163 : x34_2 < (((qA2 l0 x20_1).f1).length : Int) := zd
                   obtain ⟨ad163, e163, hx163_0⟩ := Kd.qCF HR160_1.out x34_2 p163 q163
                   cases e163
                   (try replace hx163_0 := zh hx163_0)
                   replace p163 := eq_true p163
                   replace q163 := eq_true q163
                   obtain ⟨Ao27, co27, eo27⟩ := Kd.qBW HO_3.out
                   subst eo27
                   have p164 : 0 ≤ ((rd ((qA2 l0 x20_1).f1) x34_2) : Int) := zd
                   have q164 : (rd ((qA2 l0 x20_1).f1) x34_2) < (x3_2.length : Int) := zd
                   obtain ⟨ad164, e164, hx164_0⟩ := Kd.qCF (Kd.qAU HO_3.out).2.2 (rd ((qA2 l0 x20_1).f1) x34_2) p164 q164
                   cases e164
                   replace p164 := eq_true p164
                   replace q164 := eq_true q164
                   have p22 : 0 ≤ ((rd ((qA2 l0 x20_1).f1) x34_2) : Int) := zd
                   have q22 : ((rd ((qA2 l0 x20_1).f1) x34_2) : Int) < ((x3_2.length : Int) : Int) := zd
                   obtain ⟨go22, co22, eo22, gb22, gl22, cl22, HG22⟩ := Kd.R_form HO_3.out (by omega)
                   (first | cases eo22 | (injection eo22 with ea_ en_ ec_; (first | subst ea_ | (injection ea_ with ea_; subst ea_)); subst ec_; clear en_))
                   have GB22 := qA0.mk gb22
                   have GG22 := qA0.mk HG22
                   clear gb22 gl22 HG22
                   (first | simp only [add_plain] at hx164_0 | skip)
                   obtain ⟨hx22_0, hf22_0⟩ := Kd.R_celln 0 HO_3.out ((rd ((qA2 l0 x20_1).f1) x34_2) : Int) p22 q22
                   replace p22 := eq_true p22
                   replace q22 := eq_true q22
                   have HP28 := Kd.R_putg HO_3.out ((rd ((qA2 l0 x20_1).f1) x34_2) : Int) (wrap64 ((rd x3_2 (rd ((qA2 l0 x20_1).f1) x34_2)) + 1))
                   go_wp2_with (((with_reducible refine qCB (t := 3) (p := 43) rfl ?_); refine qDK (t := 3) (p := 43) (v := ?vo_w29) (w1 := (wr.setCell ⟨go22, ((rd ((qA2 l0 x20_1).f1) x34_2) : Int).toNat, none⟩ (.int .i64 (wrap64 ((rd x3_2 (rd ((qA2 l0 x20_1).f1) x34_2)) + 1))))) ?hg ?ho ?hn ?hr ?_; (case ho => rfl); (case hg => rfl); (case hn => rfl); (case hr => first | (go_simp; done) | (go_simp; rfl)); intro w29 hw; have hg : wr.grownBy w29 (some go22) := (by rw [hw]; exact HP28.2); have hp_ : Kd.R (Kd.int .i64) 3 w29 w.heap.size (fun _ => True) (.slice (some ⟨go22, 0, none⟩) x3_2.length co27) y165 := (by rw [hw, Ny165.out]; exact HP28.1); clear HP28; replace BK161 := qA0.mk (qAN (g := gb161) (o := .cells #[.int .i64 ((qA2 l0 x20_1).f0), .slice (some ad163) ((qA2 l0 x20_1).f1).length c160_1, .int .i64 ((qA2 l0 x20_1).f2), .int .i64 ((qA2 l0 x20_1).f3), .string ((qA2 l0 x20_1).f4)] 80 (0, 0)) (zk BK161) hg (Kd.R_ne HO_3.out BK161.out (by decide))); replace HO_3 := qA0.mk (hp_); replace HB := qA0.mk ((by rw [hw]; exact qDN (HB.out) GB22.out : Below w.heap.size w w29)); clear hg hw hp_; have p166 : 0 ≤ ((rd ((qA2 l0 x20_1).f1) x34_2) : Int) := zd; have q166 : (rd ((qA2 l0 x20_1).f1) x34_2) < (y165.length : Int) := (by have h_ : ((rd ((qA2 l0 x20_1).f1) x34_2) : Int) < ((x3_2.length : Int) : Int) := zd; first | (have e_ := (Kd.qAU HO_3.out).1; omega) | simpa only [Ny165.out, List.length_set] using h_); have ql166 : (((rd ((qA2 l0 x20_1).f1) x34_2) : Int) < ((x3_2.length : Int) : Int)) = True := eq_true (zd); obtain ⟨ad166, e166, hx166_0⟩ := Kd.qCF (Kd.qAU HO_3.out).2.2 (rd ((qA2 l0 x20_1).f1) x34_2) p166 q166; obtain rfl : (⟨go22, 0, none⟩ : Addr) = ad166 := (by injection e166); (first | simp only [add_plain] at hx166_0 | simp only [add_at] at hx166_0 | simp only [Addr.add, Nat.zero_add] at hx166_0 | skip); replace p166 := eq_true p166; replace q166 := eq_true q166))
                   go_roundg k2
                   case measure => have := HK1.out; have := HK2.out; omega
                   case rel => exact ⟨(y165), (wrap64 (x34_2 + 1)), zs, H', ⟨by have := HK1.out; have := HK2.out; omega⟩, zR HO_3, ⟨zk BK161⟩, ⟨zb⟩⟩
                 ·rw [if_neg c21] at H
                  exact absurd H (by simp)
                ·rw [if_neg c20] at H
                 exact absurd H (by simp)
               ·rw [if_neg c19] at H
                exact absurd H (by simp)
              ·rw [if_neg c18] at H
               exact absurd H (by simp)
             ·rw [if_neg c17] at H
              have c17b0 := decide_eq_false c17
              clear c17
              have H' := qA0.mk H
              clear H
              go_wp2
              go_roundg k2
              case measure => have := HK1.out; have := HK2.out; omega
              case rel => exact ⟨(x3_2), (wrap64 (x20_1 + 1)), zs, H', ⟨by have := HK1.out; have := HK2.out; omega⟩, zR HO_3, ⟨zb⟩⟩
          ·rw [if_neg c12] at H
           have ⟨c12b0, c12b1⟩ := zn c12
           obtain rfl := Option.some.inj H
           have p160 : 0 ≤ (x20_1 : Int) := zd
           have q160 : x20_1 < (l0.length : Int) := zd
           obtain ⟨ad160, A160_1, c160_1, e160, hx160_0, hx160_1, hx160_2, hx160_3, hx160_4, hl160_1, hi160_1⟩ := at_T80 HR0.out x20_1 p160 q160
           cases e160
           (try replace hx160_0 := zh hx160_0)
           replace hx160_1 := zh hx160_1
           replace hx160_2 := zh hx160_2
           replace hx160_3 := zh hx160_3
           replace hx160_4 := zh hx160_4
           have HR160_1 := qA0.mk hi160_1
           have HC160_1 := qA0.mk hl160_1
           clear hi160_1 hl160_1
           replace p160 := eq_true p160
           replace q160 := eq_true q160
           go_wp2_with (first | ((with_reducible refine qAC (N := 5) rfl ?_); refine qAD ?hg (N := 5) ?hd (cs := #[.int .i64 0, .slice none 0 0, .int .i64 0, .int .i64 0, .string (⟨#[]⟩ : ByteArray)]) (t := 80) ?hr ?_; (case hd => rfl); (case hg => rfl); (case hr => first | (go_simp; done) | (go_simp; rfl)); intro gb161 hg w30 hbox hb; have BK161 := qA0.mk (hbox); have GW161 := zg w gb161; have GE161 := zg w gb161; replace HO_3 := qA0.mk (Kd.qBC (by (with_reducible repeat refine sR ?_); exact HO_3.out) hb); replace HB := qA0.mk (qA1 zb hb); clear hb hbox hg; obtain ⟨hcz31_0, hcz31_1, hcz31_2, hcz31_3, hcz31_4, hfz31_0, hfz31_1, hfz31_2, hfz31_3, hfz31_4⟩ := bc5 BK161.out) | ((with_reducible refine qA9 (f := 67) rfl ?_); refine qC2 (some 27) Try.func67 #[.agg #[.int .i64 ((qA2 l0 x20_1).f0), .slice A160_1 ((qA2 l0 x20_1).f1).length c160_1, .int .i64 ((qA2 l0 x20_1).f2), .int .i64 ((qA2 l0 x20_1).f3), .string ((qA2 l0 x20_1).f4)], .int .i64 x20_1] ?_; (with_reducible refine (qEQ.calls ((qA2 l0 x20_1).f0) _ _ ((qA2 l0 x20_1).f1) ((qA2 l0 x20_1).f2) ((qA2 l0 x20_1).f3) ((qA2 l0 x20_1).f4) x20_1 t162 _ ?side1 ?side2 A11.out).mono ?_); (case side1 => exact Kd.qAQ HR160_1.out zb); (case side2 => exact HC160_1.out); rintro e w32 ⟨rfl, hb⟩; refine ⟨_, rfl, ?_⟩; replace HO_3 := qA0.mk (Kd.qBC (by (with_reducible repeat refine sR ?_); exact (Kd.qB6 (Kd.qAS (Kd.qAS (Kd.qAS (Kd.qAS (Kd.qAS (Kd.qBZ HO_3.out BK161.out (by decide)) (fun _ hk => hk.2) _) (fun _ hk => hk.2) _) (fun _ hk => hk.2) _) (fun _ hk => hk.2) _) (fun _ hk => hk.2) _) (fun _ h_ => h_.1))) hb); replace BK161 := qA0.mk (qA5 (g := gb161) (o := .cells #[.int .i64 ((qA2 l0 x20_1).f0), .slice A160_1 ((qA2 l0 x20_1).f1).length c160_1, .int .i64 ((qA2 l0 x20_1).f2), .int .i64 ((qA2 l0 x20_1).f3), .string ((qA2 l0 x20_1).f4)] 80 (0, 0)) (by (with_reducible repeat refine st ?_); refine qAJ (cs := #[.int .i64 ((qA2 l0 x20_1).f0), .slice A160_1 ((qA2 l0 x20_1).f1).length c160_1, .int .i64 ((qA2 l0 x20_1).f2), .int .i64 ((qA2 l0 x20_1).f3), .string (⟨#[]⟩ : ByteArray)]) ?_ 4 _ rfl; (with_reducible repeat refine st ?_); refine qAJ (cs := #[.int .i64 ((qA2 l0 x20_1).f0), .slice A160_1 ((qA2 l0 x20_1).f1).length c160_1, .int .i64 ((qA2 l0 x20_1).f2), .int .i64 0, .string (⟨#[]⟩ : ByteArray)]) ?_ 3 _ rfl; (with_reducible repeat refine st ?_); refine qAJ (cs := #[.int .i64 ((qA2 l0 x20_1).f0), .slice A160_1 ((qA2 l0 x20_1).f1).length c160_1, .int .i64 0, .int .i64 0, .string (⟨#[]⟩ : ByteArray)]) ?_ 2 _ rfl; (with_reducible repeat refine st ?_); refine qAJ (cs := #[.int .i64 ((qA2 l0 x20_1).f0), .slice none 0 0, .int .i64 0, .int .i64 0, .string (⟨#[]⟩ : ByteArray)]) ?_ 1 _ rfl; (with_reducible repeat refine st ?_); refine qAJ (cs := #[.int .i64 0, .slice none 0 0, .int .i64 0, .int .i64 0, .string (⟨#[]⟩ : ByteArray)]) ?_ 0 _ rfl; (with_reducible repeat refine st ?_); exact BK161.out) hb); replace HB := qA0.mk (qA1 zb hb); (try clear hb); (try clear hb2); (try clear hk); (try clear hi)))
           go_ret
           exact ⟨zf, zb⟩
         ·rw [if_neg c10] at H
          exact absurd H (by simp)
        ·rw [if_neg c9] at H
         exact absurd H (by simp)
       ·rw [if_neg c8] at H
        have c8b0 := decide_eq_false c8
        clear c8
        obtain ⟨ji33, hji33⟩ : ∃ j_ : Int, (wrap64 ((l0.length : Int) - 1)) = j_ := ⟨_, rfl⟩
        replace H : (if 0 ≤ (ji33) then (if (ji33) ≤ (x3_1.length : Int) then ((qAX.f k1 (x3_1.take ((ji33) : Int).toNat) 0).bind fun t159 => (if t159 = true then (some 3) else (some 0))) else (none)) else (none)) = some r := by first | (rw [hji33] at H; exact H) | (simp only [hji33] at H ⊢; exact H)
        have hji33w : (IntKind.i64.wrap ((l0.length : Int) - 1)) = ji33 := (qCE _).trans hji33
        by_cases c34 : 0 ≤ (ji33)
        ·rw [if_pos c34] at H
         have c34b0 := eq_true c34
         have c34b1 := decide_eq_true c34
         clear c34
         by_cases c35 : (ji33) ≤ (x3_1.length : Int)
         ·rw [if_pos c35] at H
          have c35b0 := eq_true c35
          have c35b1 := decide_eq_true c35
          clear c35
          obtain ⟨y155, hy_⟩ : ∃ y_ : List Int, y_ = (x3_1.take ((ji33) : Int).toNat) := ⟨_, rfl⟩
          replace H : ((qAX.f k1 y155 0).bind fun t159 => (if t159 = true then (some 3) else (some 0))) = some r := zr
          have Ny155 := qA0.mk hy_
          clear hy_
          replace H := Option.bind_eq_some_iff.mp H
          obtain ⟨t159, A360, H⟩ := H
          have A36 := qA0.mk A360
          clear A360
          by_cases c37 : t159 = true
          ·subst c37
           rw [if_pos rfl] at H
           obtain rfl := Option.some.inj H
           obtain ⟨Ao39, co39, eo39⟩ := Kd.qBW HO_3.out
           subst eo39
           have q38 : ((ji33) : Int) ≤ ((x3_1.length : Int) : Int) := zd
           obtain ⟨i038, hi038, _, hsz38, _⟩ := info_parts info3
           have hroom38 : x3_1.length ≤ co39 := (Kd.qAU HO_3.out).2.1
           have hC38 : Kd.C (Kd.int .i64) _ Ao39 x3_1.length x3_1 := (Kd.qAU HO_3.out).2.2
           have hcut38 := cut_to (P := Try.prog) 78 3 .i64 Try.underlying78 hi038 Ao39 x3_1.length co39 (ji33) (zd) q38 hroom38
           have hr38 := Kd.C_take (m := ((ji33) : Int).toNat) hC38 (by omega)
           have hy38 : y155.length = ((ji33) : Int).toNat := (by rw [Ny155.out, List.length_take]; omega)
           rw [← Ny155.out] at hr38
           rw [← hy38] at hcut38
           have HR158 := qA0.mk hr38
           have HC158 := qA0.mk (show y155.length ≤ co39 from by omega)
           clear hr38 hC38 hroom38 hi038 hsz38
           have KY38 := qA0.mk hy38
           clear hy38
           have KL38 := qA0.mk (show ((ji33) : Int).toNat ≤ x3_1.length from by omega)
           replace q38 := eq_true q38
           go_wp2_with (((with_reducible refine qA9 (f := 68) rfl ?_); refine qC2 (some 56) Try.func68 #[.slice Ao39 y155.length co39, .int .i64 0] ?_; (with_reducible refine (qAX.calls k1 _ _ y155 0 true _ ?side1 ?side2 A36.out).mono ?_); (case side1 => repeat (first | exact (by repeat (first | (with_reducible exact HR158.out) | (with_reducible refine Kd.qFD ?_ _) | (with_reducible refine Kd.C_drewN ?_ _) | (with_reducible refine Kd.C_drew ?_) | exact HR158.out)) | (with_reducible refine Kd.qFD ?_ _) | (with_reducible refine Kd.C_drewN ?_ _) | (with_reducible refine Kd.C_drew ?_))); (case side2 => exact HC158.out); rintro e w' ⟨rfl, ⟨nd, rfl⟩⟩; refine ⟨_, rfl, ?_⟩))
           go_ret
           exact ⟨by first | rfl | (simp [qBU, qBT] <;> rfl) | (simp only [← hji33]; first | rfl | (simp [qBU, qBT] <;> rfl)) | (simp [*, qBU, qBT] <;> rfl), zb⟩
          ·replace c37 := Bool.eq_false_iff.mpr c37
           subst c37
           rw [if_neg (show ¬ (false = true) by decide)] at H
           obtain rfl := Option.some.inj H
           obtain ⟨Ao41, co41, eo41⟩ := Kd.qBW HO_3.out
           subst eo41
           have q40 : ((ji33) : Int) ≤ ((x3_1.length : Int) : Int) := zd
           obtain ⟨i040, hi040, _, hsz40, _⟩ := info_parts info3
           have hroom40 : x3_1.length ≤ co41 := (Kd.qAU HO_3.out).2.1
           have hC40 : Kd.C (Kd.int .i64) _ Ao41 x3_1.length x3_1 := (Kd.qAU HO_3.out).2.2
           have hcut40 := cut_to (P := Try.prog) 78 3 .i64 Try.underlying78 hi040 Ao41 x3_1.length co41 (ji33) (zd) q40 hroom40
           have hr40 := Kd.C_take (m := ((ji33) : Int).toNat) hC40 (by omega)
           have hy40 : y155.length = ((ji33) : Int).toNat := (by rw [Ny155.out, List.length_take]; omega)
           rw [← Ny155.out] at hr40
           rw [← hy40] at hcut40
           have HR158 := qA0.mk hr40
           have HC158 := qA0.mk (show y155.length ≤ co41 from by omega)
           clear hr40 hC40 hroom40 hi040 hsz40
           have KY40 := qA0.mk hy40
           clear hy40
           have KL40 := qA0.mk (show ((ji33) : Int).toNat ≤ x3_1.length from by omega)
           replace q40 := eq_true q40
           go_wp2_with (((with_reducible refine qA9 (f := 68) rfl ?_); refine qC2 (some 56) Try.func68 #[.slice Ao41 y155.length co41, .int .i64 0] ?_; (with_reducible refine (qAX.calls k1 _ _ y155 0 false _ ?side1 ?side2 A36.out).mono ?_); (case side1 => repeat (first | exact (by repeat (first | (with_reducible exact HR158.out) | (with_reducible refine Kd.qFD ?_ _) | (with_reducible refine Kd.C_drewN ?_ _) | (with_reducible refine Kd.C_drew ?_) | exact HR158.out)) | (with_reducible refine Kd.qFD ?_ _) | (with_reducible refine Kd.C_drewN ?_ _) | (with_reducible refine Kd.C_drew ?_))); (case side2 => exact HC158.out); rintro e w' ⟨rfl, ⟨nd, rfl⟩⟩; refine ⟨_, rfl, ?_⟩))
           go_ret
           exact ⟨by first | rfl | (simp [qBU, qBT] <;> rfl) | (simp only [← hji33]; first | rfl | (simp [qBU, qBT] <;> rfl)) | (simp [*, qBU, qBT] <;> rfl), zb⟩
         ·rw [if_neg c35] at H
          exact absurd H (by simp)
        ·rw [if_neg c34] at H
         exact absurd H (by simp)
    ·rw [if_neg c5] at H
     exact absurd H (by simp)
   ·rw [if_neg c4] at H
    exact absurd H (by simp)
def qC4.f (a0 : Int) : Option (Bool) := if a0 > 0 then (some (decide (a0 ≤ 6))) else (some false)
set_option maxHeartbeats 8000000 in
set_option maxRecDepth 100000 in
theorem qC4.calls (a0 : Int) (r : Bool) (w : World) (h : qC4.f a0 = some r) :
  Calls Try.prog 55 #[.int .i64 a0] w fun e w' => e = .returned (.bool r) ∧ qAE w w' := by
 have H : (if a0 > 0 then (some (decide (a0 ≤ 6))) else (some false)) = some r := h
 clear h
 by_cases c2 : a0 > 0
 ·rw [if_pos c2] at H
  have c2b0 := decide_eq_true c2
  clear c2
  obtain rfl := Option.some.inj H
  go_enter Try.func55, Try.ntmps55
  go_wp2
  go_ret
  exact ⟨by first | rfl | (simp; done) | (simp [*]; done), by repeat (first | exact qAE.refl _ | apply qAE.step)⟩
 ·rw [if_neg c2] at H
  have c2b0 := decide_eq_false c2
  clear c2
  obtain rfl := Option.some.inj H
  go_enter Try.func55, Try.ntmps55
  go_wp2
  go_ret
  exact ⟨by first | rfl | (simp; done) | (simp [*]; done), by repeat (first | exact qAE.refl _ | apply qAE.step)⟩
mutual
def qB0.l0 : Nat → ByteArray → List (S48) → Int → Int → Option (Int × Bool)
 | 0, _, _, _, _ => none
 | k + 1, x1, x10, x11, x12 => if x12 < x11 then (if 0 ≤ x12 then (if x12 < (x10.length : Int) then (qB0.l1 k x1 x10 x11 x12 ((qA3 x10 x12).f3) (((qA3 x10 x12).f3).length : Int) 0) else (none)) else (none)) else (some (0, false))
def qB0.l1 : Nat → ByteArray → List (S48) → Int → Int → List (S83) → Int → Int → Option (Int × Bool)
 | 0, _, _, _, _, _, _, _ => none
 | k + 1, x1, x10, x11, x12, x17, x18, x19 => if x19 < x18 then (if 0 ≤ x19 then (if x19 < (x17.length : Int) then (if ((qC6 x17 x19).f0).toList = x1.toList then (some ((qC6 x17 x19).f1, true)) else (qB0.l1 k x1 x10 x11 x12 x17 x18 (wrap64 (x19 + 1)))) else (none)) else (none)) else (qB0.l0 k x1 x10 x11 (wrap64 (x12 + 1)))
end
def qB0.f (k : Nat) (l0 : List (S48)) (a1 : ByteArray) : Option (Int × Bool) := qB0.l0 k a1 l0 (l0.length : Int) 0
theorem qB0.qBY : ∀ k, (∀ y0 y1 y2 y3, LeO (qB0.l0 k y0 y1 y2 y3) (qB0.l0 (k + 1) y0 y1 y2 y3)) ∧ (∀ y0 y1 y2 y3 y4 y5 y6, LeO (qB0.l1 k y0 y1 y2 y3 y4 y5 y6) (qB0.l1 (k + 1) y0 y1 y2 y3 y4 y5 y6))
 | 0 => ⟨fun _ _ _ _ r h => by simp [qB0.l0] at h, fun _ _ _ _ _ _ _ r h => by simp [qB0.l1] at h⟩
 | k + 1 => by
  obtain ⟨ih0, ih1⟩ := qB0.qBY k
  refine ⟨?_, ?_⟩
  ·intro y0 y1 y2 y3
   unfold qB0.l0
   exact zm
  ·intro y0 y1 y2 y3 y4 y5 y6
   unfold qB0.l1
   exact zm
theorem qB0.mono : ∀ a0 a1 k, LeO (qB0.f k a0 a1) (qB0.f (k + 1) a0 a1) := by
 intro a0 a1 k
 obtain ⟨ih0, ih1⟩ := qB0.qBY k
 unfold qB0.f
 exact zm
set_option maxHeartbeats 8000000 in
set_option maxRecDepth 100000 in
theorem qB0.calls (k : Nat) (A0 : Option Addr) (c0 : Nat) (l0 : List (S48)) (a1 : ByteArray) (r1 : Int) (r2 : Bool) (w : World) (hr0 : Kd.C k48 w A0 l0.length l0) (hc0 : l0.length ≤ c0) (h : qB0.f k l0 a1 = some (r1, r2)) :
  Calls Try.prog 69 #[.slice A0 l0.length c0, .string a1] w fun e w' => e = .returned (.tuple #[.int .i64 r1, .bool r2]) ∧ Below w.heap.size w w' := by
 have hu48 := Try.underlying48
 have hu83 := Try.underlying83
 have HR0 := qA0.mk hr0
 have HC0 := qA0.mk hc0
 clear hr0 hc0
 have HB := qA0.mk (Below.refl w.heap.size w)
 have H : (qB0.l0 k a1 l0 (l0.length : Int) 0) = some (r1, r2) := h
 clear h
 have H' := qA0.mk H
 clear H
 go_enter Try.func69, Try.ntmps69
 go_wp2
 go_loopg [12] k (fun kq v12 w' => ∃ (x12_1 : Int), v12 = .int .i64 x12_1 ∧ qA0 (qB0.l0 kq a1 l0 (l0.length : Int) x12_1 = some (r1, r2)) ∧ qA0 (kq ≤ k) ∧ qA0 (Below w.heap.size w w'))
 case atStart => exact ⟨(0), zs, H', ⟨Nat.le_refl _⟩, ⟨zb⟩⟩
 case round =>
  clear H'
  obtain ⟨x12_1, rfl, HA, HK1, HB⟩ := hrel
  cases gk with
  | zero => exact absurd HA.out (by simp [qB0.l0])
  | succ k1 =>
   have H := HA.out
   clear HA
   simp only [qB0.l0] at H
   by_cases c3 : x12_1 < (l0.length : Int)
   ·rw [if_pos c3] at H
    have c3b0 := decide_eq_true c3
    clear c3
    by_cases c4 : 0 ≤ x12_1
    ·rw [if_pos c4] at H
     have c4b0 := decide_eq_true c4
     clear c4
     by_cases c5 : x12_1 < (l0.length : Int)
     ·rw [if_pos c5] at H
      have c5b0 := decide_eq_true c5
      clear c5
      have H' := qA0.mk H
      clear H
      have p167 : 0 ≤ (x12_1 : Int) := zd
      have q167 : x12_1 < (l0.length : Int) := zd
      obtain ⟨ad167, A167_3, c167_3, A167_4, c167_4, A167_5, c167_5, e167, hx167_0, hx167_1, hx167_2, hx167_3, hx167_4, hx167_5, hl167_3, hi167_3, hl167_4, hi167_4, hl167_5, hi167_5⟩ := qEM HR0.out x12_1 p167 q167
      cases e167
      (try replace hx167_0 := zh hx167_0)
      replace hx167_1 := zh hx167_1
      replace hx167_2 := zh hx167_2
      replace hx167_3 := zh hx167_3
      replace hx167_4 := zh hx167_4
      replace hx167_5 := zh hx167_5
      have HR167_3 := qA0.mk hi167_3
      have HC167_3 := qA0.mk hl167_3
      clear hi167_3 hl167_3
      have HR167_4 := qA0.mk hi167_4
      have HC167_4 := qA0.mk hl167_4
      clear hi167_4 hl167_4
      have HR167_5 := qA0.mk hi167_5
      have HC167_5 := qA0.mk hl167_5
      clear hi167_5 hl167_5
      replace p167 := eq_true p167
      replace q167 := eq_true q167
      go_wp2_with (((with_reducible refine qAC (N := 7) rfl ?_); refine qAD ?hg (N := 7) ?hd (cs := #[.string (⟨#[]⟩ : ByteArray), .int .i64 0, .int .i64 0, .slice none 0 0, .slice none 0 0, .slice none 0 0]) (t := 48) ?hr ?_; (case hd => rfl); (case hg => rfl); (case hr => first | (go_simp; done) | (go_simp; rfl)); intro gb168 hg w6 hbox hb; have BK168 := qA0.mk (hbox); have GW168 := zg w gb168; have GE168 := zg w gb168; replace HB := qA0.mk (qA1 zb hb); clear hb hbox hg; obtain ⟨hcz7_0, hcz7_1, hcz7_2, hcz7_3, hcz7_4, hcz7_5, hfz7_0, hfz7_1, hfz7_2, hfz7_3, hfz7_4, hfz7_5⟩ := bc6 BK168.out))
      go_loopg [19] k1 (fun kq v19 w' => ∃ (x19_2 : Int), v19 = .int .i64 x19_2 ∧ qA0 (qB0.l1 kq a1 l0 (l0.length : Int) x12_1 ((qA3 l0 x12_1).f3) (((qA3 l0 x12_1).f3).length : Int) x19_2 = some (r1, r2)) ∧ qA0 (kq ≤ k1) ∧ qA0 (w'.heap[gb168]? = some (.cells #[.string ((qA3 l0 x12_1).f0), .int .i64 ((qA3 l0 x12_1).f1), .int .i64 ((qA3 l0 x12_1).f2), (.slice A167_3 ((qA3 l0 x12_1).f3).length c167_3), (.slice A167_4 ((qA3 l0 x12_1).f4).length c167_4), (.slice A167_5 ((qA3 l0 x12_1).f5).length c167_5)] 48 (0, 0))) ∧ qA0 (Below w.heap.size w w'))
      case atStart => exact ⟨(0), zs, H', ⟨Nat.le_refl _⟩, ⟨by refine zp_ (cs := #[.string ((qA3 l0 x12_1).f0), .int .i64 ((qA3 l0 x12_1).f1), .int .i64 ((qA3 l0 x12_1).f2), .slice A167_3 ((qA3 l0 x12_1).f3).length c167_3, .slice A167_4 ((qA3 l0 x12_1).f4).length c167_4, .slice none 0 0]) ?_ 5; refine zp_ (cs := #[.string ((qA3 l0 x12_1).f0), .int .i64 ((qA3 l0 x12_1).f1), .int .i64 ((qA3 l0 x12_1).f2), .slice A167_3 ((qA3 l0 x12_1).f3).length c167_3, .slice none 0 0, .slice none 0 0]) ?_ 4; refine zp_ (cs := #[.string ((qA3 l0 x12_1).f0), .int .i64 ((qA3 l0 x12_1).f1), .int .i64 ((qA3 l0 x12_1).f2), .slice none 0 0, .slice none 0 0, .slice none 0 0]) ?_ 3; refine zp_ (cs := #[.string ((qA3 l0 x12_1).f0), .int .i64 ((qA3 l0 x12_1).f1), .int .i64 0, .slice none 0 0, .slice none 0 0, .slice none 0 0]) ?_ 2; refine zp_ (cs := #[.string ((qA3 l0 x12_1).f0), .int .i64 0, .int .i64 0, .slice none 0 0, .slice none 0 0, .slice none 0 0]) ?_ 1; (with_reducible repeat refine st ?_); refine qAJ (cs := #[.string (⟨#[]⟩ : ByteArray), .int .i64 0, .int .i64 0, .slice none 0 0, .slice none 0 0, .slice none 0 0]) ?_ 0 _ rfl; (with_reducible repeat refine st ?_); exact BK168.out⟩, ⟨zb⟩⟩
      case round =>
       clear H' c3b0 c4b0 c5b0 hcz7_0 hcz7_1 hcz7_2 hcz7_3 hcz7_4 hcz7_5 hfz7_0 hfz7_1 hfz7_2 hfz7_3 hfz7_4 hfz7_5 hx167_0 hx167_1 hx167_2 hx167_3 hx167_4 hx167_5 p167 q167
       obtain ⟨x19_2, rfl, HA, HK2, BK168, HB⟩ := hrel
       cases gk with
       | zero => exact absurd HA.out (by simp [qB0.l1])
       | succ k2 =>
        have H := HA.out
        clear HA
        simp only [qB0.l1] at H
        by_cases c8 : x19_2 < (((qA3 l0 x12_1).f3).length : Int)
        ·rw [if_pos c8] at H
         have c8b0 := decide_eq_true c8
         clear c8
         by_cases c9 : 0 ≤ x19_2
         ·rw [if_pos c9] at H
          have c9b0 := decide_eq_true c9
          clear c9
          by_cases c10 : x19_2 < (((qA3 l0 x12_1).f3).length : Int)
          ·rw [if_pos c10] at H
           have c10b0 := decide_eq_true c10
           clear c10
           by_cases c11 : ((qC6 ((qA3 l0 x12_1).f3) x19_2).f0).toList = a1.toList
           ·rw [if_pos c11] at H
            have ⟨c11b0, c11b1⟩ := ze c11
            clear c11
            simp only [Option.some.injEq, Prod.mk.injEq] at H
            obtain ⟨rfl, rfl⟩ := H
            have p169 : 0 ≤ (x19_2 : Int) := zd
            have q169 : x19_2 < (((qA3 l0 x12_1).f3).length : Int) := zd
            obtain ⟨ad169, e169, hx169_0, hx169_1, hx169_2, hx169_3, hx169_4, hx169_5, hx169_6⟩ := at_T83 HR167_3.out x19_2 p169 q169
            cases e169
            (try replace hx169_0 := zh hx169_0)
            replace hx169_1 := zh hx169_1
            replace hx169_2 := zh hx169_2
            replace hx169_3 := zh hx169_3
            replace hx169_4 := zh hx169_4
            replace hx169_5 := zh hx169_5
            replace hx169_6 := zh hx169_6
            replace p169 := eq_true p169
            replace q169 := eq_true q169
            go_wp2_with (((with_reducible refine qAC (N := 9) rfl ?_); refine qAD ?hg (N := 9) ?hd (cs := #[.string (⟨#[]⟩ : ByteArray), .int .i64 0, .bool false, .int .i64 0, .int .i64 0, .int .i64 0, .int .i64 0]) (t := 83) ?hr ?_; (case hd => rfl); (case hg => rfl); (case hr => first | (go_simp; done) | (go_simp; rfl)); intro gb170 hg w12 hbox hb; have BK170 := qA0.mk (hbox); have GW170 := zg w gb170; have GE170 := zg w gb170; have NB168_170 := zl BK168 gb170; have NB170_168 := zu BK168 gb170; replace BK168 := qA0.mk (qA5 (zk BK168) hb); replace HB := qA0.mk (qA1 zb hb); clear hb hbox hg; have hnb13 := NB170_168.out; have hnc13 := NB168_170.out; obtain ⟨hcz14_0, hcz14_1, hcz14_2, hcz14_3, hcz14_4, hcz14_5, hcz14_6, hfz14_0, hfz14_1, hfz14_2, hfz14_3, hfz14_4, hfz14_5, hfz14_6⟩ := bc7 BK170.out))
            go_ret2
            exact ⟨zf, zb⟩
           ·rw [if_neg c11] at H
            have ⟨c11b0, c11b1⟩ := zn c11
            have H' := qA0.mk H
            clear H
            have p169 : 0 ≤ (x19_2 : Int) := zd
            have q169 : x19_2 < (((qA3 l0 x12_1).f3).length : Int) := zd
            obtain ⟨ad169, e169, hx169_0, hx169_1, hx169_2, hx169_3, hx169_4, hx169_5, hx169_6⟩ := at_T83 HR167_3.out x19_2 p169 q169
            cases e169
            (try replace hx169_0 := zh hx169_0)
            replace hx169_1 := zh hx169_1
            replace hx169_2 := zh hx169_2
            replace hx169_3 := zh hx169_3
            replace hx169_4 := zh hx169_4
            replace hx169_5 := zh hx169_5
            replace hx169_6 := zh hx169_6
            replace p169 := eq_true p169
            replace q169 := eq_true q169
            go_wp2_with (((with_reducible refine qAC (N := 9) rfl ?_); refine qAD ?hg (N := 9) ?hd (cs := #[.string (⟨#[]⟩ : ByteArray), .int .i64 0, .bool false, .int .i64 0, .int .i64 0, .int .i64 0, .int .i64 0]) (t := 83) ?hr ?_; (case hd => rfl); (case hg => rfl); (case hr => first | (go_simp; done) | (go_simp; rfl)); intro gb170 hg w15 hbox hb; have BK170 := qA0.mk (hbox); have GW170 := zg w gb170; have GE170 := zg w gb170; have NB168_170 := zl BK168 gb170; have NB170_168 := zu BK168 gb170; replace BK168 := qA0.mk (qA5 (zk BK168) hb); replace HB := qA0.mk (qA1 zb hb); clear hb hbox hg; have hnb16 := NB170_168.out; have hnc16 := NB168_170.out; obtain ⟨hcz17_0, hcz17_1, hcz17_2, hcz17_3, hcz17_4, hcz17_5, hcz17_6, hfz17_0, hfz17_1, hfz17_2, hfz17_3, hfz17_4, hfz17_5, hfz17_6⟩ := bc7 BK170.out))
            go_roundg k2
            case measure => have := HK1.out; have := HK2.out; omega
            case rel => exact ⟨(wrap64 (x19_2 + 1)), zs, H', ⟨by have := HK1.out; have := HK2.out; omega⟩, ⟨by refine zf_ ?_ NB168_170; refine zf_ ?_ NB168_170; refine zf_ ?_ NB168_170; refine zf_ ?_ NB168_170; refine zf_ ?_ NB168_170; refine zf_ ?_ NB168_170; refine zf_ ?_ NB168_170; (with_reducible repeat refine st ?_); exact BK168.out⟩, ⟨zb⟩⟩
          ·rw [if_neg c10] at H
           exact absurd H (by simp)
         ·rw [if_neg c9] at H
          exact absurd H (by simp)
        ·rw [if_neg c8] at H
         have c8b0 := decide_eq_false c8
         clear c8
         have H' := qA0.mk H
         clear H
         go_wp2
         go_roundg k2
         case measure => have := HK1.out; have := HK2.out; omega
         case rel => exact ⟨(wrap64 (x12_1 + 1)), zs, H', ⟨by have := HK1.out; have := HK2.out; omega⟩, ⟨zb⟩⟩
     ·rw [if_neg c5] at H
      exact absurd H (by simp)
    ·rw [if_neg c4] at H
     exact absurd H (by simp)
   ·rw [if_neg c3] at H
    have c3b0 := decide_eq_false c3
    clear c3
    simp only [Option.some.injEq, Prod.mk.injEq] at H
    obtain ⟨rfl, rfl⟩ := H
    go_wp2
    go_ret2
    exact ⟨zf, zb⟩
end
end Go.Proofs.Ytnliaialemfcaaa.PRateFinds
end
section
namespace Go.Proofs.Ytnliaialemfcaaa.PRateFinds
noncomputable section
open Go.RowKit Go.Proofs.YtnliaialemfcaaaW.PrintWords Go.Proofs.YtnliaialemfcaaaW.PrintLast Go.Proofs.YtnliaialemfcaaaW.PrintMore
mutual
def qAO.j0 : Nat → Int → Bool → Int → List Int → Int → Int → ByteArray → Option (Int × Int)
 | 0, _, _, _, _, _, _, _ => none
 | k + 1, x6, x18, x172000, x172001, x172002, x172003, x172004 => if x18 = true then (some (x6, 0)) else (if x172000 = 3 then (qAO.j1 k x6 (x6 == 1) x172000 x172001 x172002 x172003 x172004) else (qAO.j1 k x6 false x172000 x172001 x172002 x172003 x172004))
def qAO.j1 : Nat → Int → Bool → Int → List Int → Int → Int → ByteArray → Option (Int × Int)
 | 0, _, _, _, _, _, _, _ => none
 | k + 1, x6, x27, x172000, x172001, x172002, x172003, x172004 => if x27 = true then (some (5, 0)) else (if x172000 = 2 then (if x6 = 2 then (some (x6, 0)) else (if x6 = 3 then (some (x6, 0)) else (if x6 = 5 then (some (x6, 0)) else (if x6 = 6 then (some (x6, 0)) else (some (0, 8)))))) else (some (0, 8)))
end
def qAO.f (k : Nat) (l0 : List (S48)) (a1_0 : Int) (l1_1 : List Int) (a1_2 : Int) (a1_3 : Int) (a1_4 : ByteArray) : Option (Int × Int) := (qB0.f k l0 a1_4).bind fun bt172 => (if bt172.2 = true then (if a1_0 = 1 then ((qC4.f bt172.1).bind fun t174 => (qAO.j0 k bt172.1 t174 a1_0 l1_1 a1_2 a1_3 a1_4)) else (qAO.j0 k bt172.1 false a1_0 l1_1 a1_2 a1_3 a1_4)) else (some (0, 15)))
theorem qAO.qBY : ∀ k, (∀ y0 y1 y2 y3 y4 y5 y6, LeO (qAO.j0 k y0 y1 y2 y3 y4 y5 y6) (qAO.j0 (k + 1) y0 y1 y2 y3 y4 y5 y6)) ∧ (∀ y0 y1 y2 y3 y4 y5 y6, LeO (qAO.j1 k y0 y1 y2 y3 y4 y5 y6) (qAO.j1 (k + 1) y0 y1 y2 y3 y4 y5 y6))
 | 0 => ⟨fun _ _ _ _ _ _ _ r h => by simp [qAO.j0] at h, fun _ _ _ _ _ _ _ r h => by simp [qAO.j1] at h⟩
 | k + 1 => by
  obtain ⟨ih0, ih1⟩ := qAO.qBY k
  refine ⟨?_, ?_⟩
  ·intro y0 y1 y2 y3 y4 y5 y6
   unfold qAO.j0
   have im0 := @qB0.mono
   exact zm
  ·intro y0 y1 y2 y3 y4 y5 y6
   unfold qAO.j1
   have im0 := @qB0.mono
   exact zm
theorem qAO.mono : ∀ a0 a1 a2 a3 a4 a5 k, LeO (qAO.f k a0 a1 a2 a3 a4 a5) (qAO.f (k + 1) a0 a1 a2 a3 a4 a5) := by
 intro a0 a1 a2 a3 a4 a5 k
 obtain ⟨ih0, ih1⟩ := qAO.qBY k
 unfold qAO.f
 have im0 := @qB0.mono
 exact zm
set_option maxHeartbeats 8000000 in
set_option maxRecDepth 100000 in
theorem qAO.calls (k : Nat) (A0 : Option Addr) (c0 : Nat) (l0 : List (S48)) (a1_0 : Int) (A1_1 : Option Addr) (c1_1 : Nat) (l1_1 : List Int) (a1_2 : Int) (a1_3 : Int) (a1_4 : ByteArray) (r1 : Int) (r2 : Int) (w : World) (hr0 : Kd.C k48 w A0 l0.length l0) (hc0 : l0.length ≤ c0) (hr1_1 : Kd.C (Kd.int .i64) w A1_1 l1_1.length l1_1) (hc1_1 : l1_1.length ≤ c1_1) (h : qAO.f k l0 a1_0 l1_1 a1_2 a1_3 a1_4 = some (r1, r2)) :
  Calls Try.prog 52 #[.slice A0 l0.length c0, .agg #[.int .i64 a1_0, .slice A1_1 l1_1.length c1_1, .int .i64 a1_2, .int .i64 a1_3, .string a1_4]] w fun e w' => e = .returned (.tuple #[.int .i64 r1, .int .i64 r2]) ∧ Below w.heap.size w w' := by
 have hu80 := Try.underlying80
 have HR0 := qA0.mk hr0
 have HC0 := qA0.mk hc0
 clear hr0 hc0
 have HR1_1 := qA0.mk hr1_1
 have HC1_1 := qA0.mk hc1_1
 clear hr1_1 hc1_1
 have HB := qA0.mk (Below.refl w.heap.size w)
 have H : ((qB0.f k l0 a1_4).bind fun bt172 => (if bt172.2 = true then (if a1_0 = 1 then ((qC4.f bt172.1).bind fun t174 => (qAO.j0 k bt172.1 t174 a1_0 l1_1 a1_2 a1_3 a1_4)) else (qAO.j0 k bt172.1 false a1_0 l1_1 a1_2 a1_3 a1_4)) else (some (0, 15)))) = some (r1, r2) := h
 clear h
 replace H := Option.bind_eq_some_iff.mp H
 obtain ⟨⟨t172, t173⟩, A30, H⟩ := H
 replace H : (if t173 = true then (if a1_0 = 1 then ((qC4.f t172).bind fun t174 => (qAO.j0 k t172 t174 a1_0 l1_1 a1_2 a1_3 a1_4)) else (qAO.j0 k t172 false a1_0 l1_1 a1_2 a1_3 a1_4)) else (some (0, 15))) = some (r1, r2) := H
 have A3 := qA0.mk A30
 clear A30
 by_cases c4 : t173 = true
 ·subst c4
  rw [if_pos rfl] at H
  have HC5 := qA0.mk H
  clear H
  go_enter Try.func52, Try.ntmps52
  go_upto_region 4 with (first | ((with_reducible refine qAC (N := 3) rfl ?_); refine qAD ?hg (N := 3) ?hd (cs := #[.int .i64 a1_0, .slice A1_1 l1_1.length c1_1, .int .i64 a1_2, .int .i64 a1_3, .string a1_4]) (t := 80) ?hr ?_; (case hd => rfl); (case hg => rfl); (case hr => first | (go_simp; done) | (go_simp; rfl)); intro gb171 hg w6 hbox hb; have BK171 := qA0.mk (hbox); have GW171 := zg w gb171; have GE171 := zg w gb171; replace HB := qA0.mk (qA1 zb hb); clear hb hbox hg; obtain ⟨hcz7_0, hcz7_1, hcz7_2, hcz7_3, hcz7_4, hfz7_0, hfz7_1, hfz7_2, hfz7_3, hfz7_4⟩ := bc5 BK171.out) | ((with_reducible refine qA9 (f := 69) rfl ?_); refine qC2 (some 12) Try.func69 #[.slice A0 l0.length c0, .string a1_4] ?_; (with_reducible refine (qB0.calls k _ _ l0 a1_4 t172 true _ ?side1 ?side2 A3.out).mono ?_); (case side1 => repeat (first | exact (Kd.qAQ HR0.out HB.out) | refine sC ?_)); (case side2 => exact HC0.out); rintro e w8 ⟨rfl, hb⟩; refine ⟨_, rfl, ?_⟩; replace BK171 := qA0.mk (qA5 (zk BK171) hb); replace HB := qA0.mk (qA1 zb hb); (try clear hb); (try clear hb2); (try clear hk); (try clear hi)))
  go_cut [18] (fun v18 wc => ∃ (kq : Nat) (x18_4 : Bool), v18 = .bool x18_4 ∧ qA0 (qAO.j0 kq t172 x18_4 a1_0 l1_1 a1_2 a1_3 a1_4 = some (r1, r2)) ∧ qA0 (kq ≤ k) ∧ qA0 (wc.heap[gb171]? = some (.cells #[.int .i64 a1_0, (.slice A1_1 l1_1.length c1_1), .int .i64 a1_2, .int .i64 a1_3, .string a1_4] 80 (0, 0))) ∧ qA0 (Below w.heap.size w wc))
  case first =>
   have H := HC5.out
   clear HC5
   by_cases c9 : a1_0 = 1
   ·rw [if_pos c9] at H
    have ⟨c9b0, c9b1⟩ := ze c9
    clear c9
    (first | rw [c9b0] | (simp only [qCE, qCJ]; rw [c9b0]) | skip)
    replace H := Option.bind_eq_some_iff.mp H
    obtain ⟨t174, A100, H⟩ := H
    have A10 := qA0.mk A100
    clear A100
    have H' := qA0.mk H
    clear H
    obtain ⟨hcz11_0, hcz11_1, hcz11_2, hcz11_3, hcz11_4, hfz11_0, hfz11_1, hfz11_2, hfz11_3, hfz11_4⟩ := bc5 BK171.out
    go_wp2_with ((go_at_call 55; (with_reducible refine (qC4.calls t172 t174 _ A10.out).mono ?_); rintro e w' ⟨rfl, ⟨nd, rfl⟩⟩))
    go_meet
    case rel => exact ⟨_, (t174), zs, H', ⟨by first | omega | exact Nat.le_refl _⟩, ⟨zk BK171⟩, ⟨zb⟩⟩
   ·rw [if_neg c9] at H
    have ⟨c9b0, c9b1⟩ := zn c9
    (first | rw [c9b0] | (simp only [qCE, qCJ]; rw [c9b0]) | skip)
    have H' := qA0.mk H
    clear H
    obtain ⟨hcz12_0, hcz12_1, hcz12_2, hcz12_3, hcz12_4, hfz12_0, hfz12_1, hfz12_2, hfz12_3, hfz12_4⟩ := bc5 BK171.out
    go_wp2
    go_meet
    case rel => exact ⟨_, (false), zs, H', ⟨by first | omega | exact Nat.le_refl _⟩, ⟨zk BK171⟩, ⟨zb⟩⟩
  case rest =>
   clear HC5 hcz7_0 hcz7_1 hcz7_2 hcz7_3 hcz7_4 hfz7_0 hfz7_1 hfz7_2 hfz7_3 hfz7_4
   obtain ⟨kq, x18_4, rfl, HA, HJ4, BK171, HB⟩ := hcut
   cases kq with
   | zero => exact absurd HA.out (by simp [qAO.j0])
   | succ kj4 =>
    have H := HA.out
    clear HA
    simp only [qAO.j0] at H
    by_cases c13 : x18_4 = true
    ·subst c13
     rw [if_pos rfl] at H
     simp only [Option.some.injEq, Prod.mk.injEq] at H
     obtain ⟨rfl, rfl⟩ := H
     go_wp2
     go_ret2
     exact ⟨zf, zb⟩
    ·replace c13 := Bool.eq_false_iff.mpr c13
     subst c13
     rw [if_neg (show ¬ (false = true) by decide)] at H
     have HC14 := qA0.mk H
     clear H
     go_upto_region 6 with (fail)
     go_cut [27] (fun v27 wc => ∃ (kq : Nat) (x27_13 : Bool), v27 = .bool x27_13 ∧ qA0 (qAO.j1 kq t172 x27_13 a1_0 l1_1 a1_2 a1_3 a1_4 = some (r1, r2)) ∧ qA0 (kq ≤ kj4) ∧ qA0 (wc.heap[gb171]? = some (.cells #[.int .i64 a1_0, (.slice A1_1 l1_1.length c1_1), .int .i64 a1_2, .int .i64 a1_3, .string a1_4] 80 (0, 0))) ∧ qA0 (Below w.heap.size w wc))
     case first =>
      have H := HC14.out
      clear HC14
      by_cases c15 : a1_0 = 3
      ·rw [if_pos c15] at H
       have ⟨c15b0, c15b1⟩ := ze c15
       clear c15
       (first | rw [c15b0] | (simp only [qCE, qCJ]; rw [c15b0]) | skip)
       have H' := qA0.mk H
       clear H
       obtain ⟨hcz16_0, hcz16_1, hcz16_2, hcz16_3, hcz16_4, hfz16_0, hfz16_1, hfz16_2, hfz16_3, hfz16_4⟩ := bc5 BK171.out
       go_wp2
       go_meet
       case rel => exact ⟨_, ((t172 == 1)), zs, H', ⟨by have := HJ4.out; first | omega | exact Nat.le_refl _⟩, ⟨zk BK171⟩, ⟨zb⟩⟩
      ·rw [if_neg c15] at H
       have ⟨c15b0, c15b1⟩ := zn c15
       (first | rw [c15b0] | (simp only [qCE, qCJ]; rw [c15b0]) | skip)
       have H' := qA0.mk H
       clear H
       obtain ⟨hcz17_0, hcz17_1, hcz17_2, hcz17_3, hcz17_4, hfz17_0, hfz17_1, hfz17_2, hfz17_3, hfz17_4⟩ := bc5 BK171.out
       go_wp2
       go_meet
       case rel => exact ⟨_, (false), zs, H', ⟨by have := HJ4.out; first | omega | exact Nat.le_refl _⟩, ⟨zk BK171⟩, ⟨zb⟩⟩
     case rest =>
      clear HC14
      obtain ⟨kq, x27_13, rfl, HA, HJ13, BK171, HB⟩ := hcut
      cases kq with
      | zero => exact absurd HA.out (by simp [qAO.j1])
      | succ kj13 =>
       have H := HA.out
       clear HA
       simp only [qAO.j1] at H
       by_cases c18 : x27_13 = true
       ·subst c18
        rw [if_pos rfl] at H
        simp only [Option.some.injEq, Prod.mk.injEq] at H
        obtain ⟨rfl, rfl⟩ := H
        go_wp2
        go_ret2
        exact ⟨zf, zb⟩
       ·replace c18 := Bool.eq_false_iff.mpr c18
        subst c18
        rw [if_neg (show ¬ (false = true) by decide)] at H
        by_cases c19 : a1_0 = 2
        ·rw [if_pos c19] at H
         have ⟨c19b0, c19b1⟩ := ze c19
         clear c19
         by_cases c20 : t172 = 2
         ·rw [if_pos c20] at H
          have ⟨c20b0, c20b1⟩ := ze c20
          clear c20
          simp only [Option.some.injEq, Prod.mk.injEq] at H
          obtain ⟨rfl, rfl⟩ := H
          obtain ⟨hcz21_0, hcz21_1, hcz21_2, hcz21_3, hcz21_4, hfz21_0, hfz21_1, hfz21_2, hfz21_3, hfz21_4⟩ := bc5 BK171.out
          go_wp2
          go_ret2
          exact ⟨zf, zb⟩
         ·rw [if_neg c20] at H
          have ⟨c20b0, c20b1⟩ := zn c20
          by_cases c22 : t172 = 3
          ·rw [if_pos c22] at H
           have ⟨c22b0, c22b1⟩ := ze c22
           clear c22
           simp only [Option.some.injEq, Prod.mk.injEq] at H
           obtain ⟨rfl, rfl⟩ := H
           obtain ⟨hcz23_0, hcz23_1, hcz23_2, hcz23_3, hcz23_4, hfz23_0, hfz23_1, hfz23_2, hfz23_3, hfz23_4⟩ := bc5 BK171.out
           go_wp2
           go_ret2
           exact ⟨zf, zb⟩
          ·rw [if_neg c22] at H
           have ⟨c22b0, c22b1⟩ := zn c22
           by_cases c24 : t172 = 5
           ·rw [if_pos c24] at H
            have ⟨c24b0, c24b1⟩ := ze c24
            clear c24
            simp only [Option.some.injEq, Prod.mk.injEq] at H
            obtain ⟨rfl, rfl⟩ := H
            obtain ⟨hcz25_0, hcz25_1, hcz25_2, hcz25_3, hcz25_4, hfz25_0, hfz25_1, hfz25_2, hfz25_3, hfz25_4⟩ := bc5 BK171.out
            go_wp2
            go_ret2
            exact ⟨zf, zb⟩
           ·rw [if_neg c24] at H
            have ⟨c24b0, c24b1⟩ := zn c24
            by_cases c26 : t172 = 6
            ·rw [if_pos c26] at H
             have ⟨c26b0, c26b1⟩ := ze c26
             clear c26
             simp only [Option.some.injEq, Prod.mk.injEq] at H
             obtain ⟨rfl, rfl⟩ := H
             obtain ⟨hcz27_0, hcz27_1, hcz27_2, hcz27_3, hcz27_4, hfz27_0, hfz27_1, hfz27_2, hfz27_3, hfz27_4⟩ := bc5 BK171.out
             go_wp2
             go_ret2
             exact ⟨zf, zb⟩
            ·rw [if_neg c26] at H
             have ⟨c26b0, c26b1⟩ := zn c26
             simp only [Option.some.injEq, Prod.mk.injEq] at H
             obtain ⟨rfl, rfl⟩ := H
             obtain ⟨hcz28_0, hcz28_1, hcz28_2, hcz28_3, hcz28_4, hfz28_0, hfz28_1, hfz28_2, hfz28_3, hfz28_4⟩ := bc5 BK171.out
             go_wp2
             go_ret2
             exact ⟨zf, zb⟩
        ·rw [if_neg c19] at H
         have ⟨c19b0, c19b1⟩ := zn c19
         simp only [Option.some.injEq, Prod.mk.injEq] at H
         obtain ⟨rfl, rfl⟩ := H
         obtain ⟨hcz29_0, hcz29_1, hcz29_2, hcz29_3, hcz29_4, hfz29_0, hfz29_1, hfz29_2, hfz29_3, hfz29_4⟩ := bc5 BK171.out
         go_wp2
         go_ret2
         exact ⟨zf, zb⟩
 ·replace c4 := Bool.eq_false_iff.mpr c4
  subst c4
  rw [if_neg (show ¬ (false = true) by decide)] at H
  simp only [Option.some.injEq, Prod.mk.injEq] at H
  obtain ⟨rfl, rfl⟩ := H
  go_enter Try.func52, Try.ntmps52
  go_wp2_with (first | ((with_reducible refine qAC (N := 3) rfl ?_); refine qAD ?hg (N := 3) ?hd (cs := #[.int .i64 a1_0, .slice A1_1 l1_1.length c1_1, .int .i64 a1_2, .int .i64 a1_3, .string a1_4]) (t := 80) ?hr ?_; (case hd => rfl); (case hg => rfl); (case hr => first | (go_simp; done) | (go_simp; rfl)); intro gb171 hg w30 hbox hb; have BK171 := qA0.mk (hbox); have GW171 := zg w gb171; have GE171 := zg w gb171; replace HB := qA0.mk (qA1 zb hb); clear hb hbox hg; obtain ⟨hcz31_0, hcz31_1, hcz31_2, hcz31_3, hcz31_4, hfz31_0, hfz31_1, hfz31_2, hfz31_3, hfz31_4⟩ := bc5 BK171.out) | ((with_reducible refine qA9 (f := 69) rfl ?_); refine qC2 (some 12) Try.func69 #[.slice A0 l0.length c0, .string a1_4] ?_; (with_reducible refine (qB0.calls k _ _ l0 a1_4 t172 false _ ?side1 ?side2 A3.out).mono ?_); (case side1 => repeat (first | exact (Kd.qAQ HR0.out HB.out) | refine sC ?_)); (case side2 => exact HC0.out); rintro e w32 ⟨rfl, hb⟩; refine ⟨_, rfl, ?_⟩; replace BK171 := qA0.mk (qA5 (zk BK171) hb); replace HB := qA0.mk (qA1 zb hb); (try clear hb); (try clear hb2); (try clear hk); (try clear hi)))
  go_ret2
  exact ⟨zf, zb⟩
def qBI.l0 : Nat → ByteArray → List (S69) → Int → Int → Option (ByteArray × Int × Int × Bool × (List (S76)) × Bool)
 | 0, _, _, _, _ => none
 | k + 1, x1, x8, x9, x10 => if x10 < x9 then (if 0 ≤ x10 then (if x10 < (x8.length : Int) then (if ((qAL x8 x10).f0).toList = x1.toList then (some ((qAL x8 x10).f0, (qAL x8 x10).f1, (qAL x8 x10).f2, (qAL x8 x10).f3, (qAL x8 x10).f4, true)) else (qBI.l0 k x1 x8 x9 (wrap64 (x10 + 1)))) else (none)) else (none)) else (some ((⟨#[]⟩ : ByteArray), 0, 0, false, ([] : List (S76)), false))
def qBI.f (k : Nat) (l0 : List (S69)) (a1 : ByteArray) : Option (ByteArray × Int × Int × Bool × (List (S76)) × Bool) := qBI.l0 k a1 l0 (l0.length : Int) 0
theorem qBI.qBY : ∀ k, (∀ y0 y1 y2 y3, LeO (qBI.l0 k y0 y1 y2 y3) (qBI.l0 (k + 1) y0 y1 y2 y3))
 | 0 => fun _ _ _ _ r h => by simp [qBI.l0] at h
 | k + 1 => by
  have ih0 := qBI.qBY k
  ·intro y0 y1 y2 y3
   unfold qBI.l0
   exact zm
theorem qBI.mono : ∀ a0 a1 k, LeO (qBI.f k a0 a1) (qBI.f (k + 1) a0 a1) := by
 intro a0 a1 k
 have ih0 := qBI.qBY k
 unfold qBI.f
 exact zm
set_option maxHeartbeats 8000000 in
set_option maxRecDepth 100000 in
theorem qBI.calls (k : Nat) (P0_ : Nat → Prop) (A0 : Option Addr) (c0 : Nat) (l0 : List (S69)) (a1 : ByteArray) (r1 : ByteArray) (r2 : Int) (r3 : Int) (r4 : Bool) (r5 : List (S76)) (r6 : Bool) (w : World) (hs0 : Kd.V k69 69 w w.heap.size (fun k_ => P0_ k_) (.slice A0 l0.length c0) l0) (h : qBI.f k l0 a1 = some (r1, r2, r3, r4, r5, r6)) :
  Calls Try.prog 53 #[.slice A0 l0.length c0, .string a1] w fun e w' => ∃ v4_ : Value, e = .returned (.tuple #[.agg #[.string r1, .int .i64 r2, .int .i64 r3, .bool r4, v4_], .bool r6]) ∧ Kd.V k76 76 w' w.heap.size (fun k_ => (P0_ k_ ∨ w.heap.size ≤ k_)) v4_ r5 ∧ Below w.heap.size w w' := by
 have hu69 := Try.underlying69
 have HO0 := qA0.mk (show Kd.V k69 69 w w.heap.size (fun k_ => (P0_ k_ ∨ w.heap.size ≤ k_)) (.slice A0 l0.length c0) l0 from Kd.qF4 hs0 (fun k_ hk => .inl hk))
 have HB := qA0.mk (Below.refl w.heap.size w)
 have H : (qBI.l0 k a1 l0 (l0.length : Int) 0) = some (r1, r2, r3, r4, r5, r6) := h
 clear h
 have H' := qA0.mk H
 clear H
 go_enter Try.func53, Try.ntmps53
 go_wp2_with (((with_reducible refine qAC (N := 4) rfl ?_); refine qAD ?hg (N := 4) ?hd (cs := #[.string (⟨#[]⟩ : ByteArray), .int .i64 0, .int .i64 0, .bool false, .slice none 0 0]) (t := 69) ?hr ?_; (case hd => rfl); (case hg => rfl); (case hr => first | (go_simp; done) | (go_simp; rfl)); intro gb175 hg w3 hbox hb; have BK175 := qA0.mk (hbox); have GW175 := zg w gb175; have GE175 := zg w gb175; replace HO0 := qA0.mk (Kd.V_below (Kd.V_elderB (by (with_reducible repeat (first | apply Kd.V_alloc | apply Kd.qE8 | apply Kd.V_drew)); exact HO0.out) gb175 (Nat.le_of_eq hg.symm)) hb); replace HB := qA0.mk (qA1 zb hb); clear hb hbox hg))
 go_loopg [10] k (fun kq v10 w' => ∃ (x10_1 : Int) (x176000_1 : ByteArray) (x176001_1 : Int) (x176002_1 : Int) (x176003_1 : Bool), v10 = .int .i64 x10_1 ∧ qA0 (qBI.l0 kq a1 l0 (l0.length : Int) x10_1 = some (r1, r2, r3, r4, r5, r6)) ∧ qA0 (kq ≤ k) ∧ qA0 (Kd.V k69 69 w' w.heap.size (fun k_ => (P0_ k_ ∨ w.heap.size ≤ k_) ∧ k_ ≠ gb175) (.slice A0 l0.length c0) l0) ∧ qA0 (w'.heap[gb175]? = some (.cells #[.string x176000_1, .int .i64 x176001_1, .int .i64 x176002_1, .bool x176003_1, (.slice none 0 0)] 69 (0, 0))) ∧ qA0 (Below w.heap.size w w'))
 case atStart => exact ⟨(0), ((⟨#[]⟩ : ByteArray)), (0), (0), (false), zs, H', ⟨Nat.le_refl _⟩, ⟨by (with_reducible repeat (first | apply Kd.V_alloc | apply Kd.qE8 | apply Kd.V_drew)); exact HO0.out⟩, ⟨zk BK175⟩, ⟨zb⟩⟩
 case round =>
  clear H'
  obtain ⟨x10_1, x176000_1, x176001_1, x176002_1, x176003_1, rfl, HA, HK1, HO_8, BK175, HB⟩ := hrel
  cases gk with
  | zero => exact absurd HA.out (by simp [qBI.l0])
  | succ k1 =>
   have H := HA.out
   clear HA
   simp only [qBI.l0] at H
   by_cases c4 : x10_1 < (l0.length : Int)
   ·rw [if_pos c4] at H
    have c4b0 := decide_eq_true c4
    clear c4
    by_cases c5 : 0 ≤ x10_1
    ·rw [if_pos c5] at H
     have c5b0 := decide_eq_true c5
     clear c5
     by_cases c6 : x10_1 < (l0.length : Int)
     ·rw [if_pos c6] at H
      have c6b0 := decide_eq_true c6
      clear c6
      by_cases c7 : ((qAL l0 x10_1).f0).toList = a1.toList
      ·rw [if_pos c7] at H
       have ⟨c7b0, c7b1⟩ := ze c7
       clear c7
       simp only [Option.some.injEq, Prod.mk.injEq] at H
       obtain ⟨rfl, rfl, rfl, rfl, rfl, rfl⟩ := H
       have p176 : 0 ≤ (x10_1 : Int) := zd
       have q176 : x10_1 < (l0.length : Int) := zd
       obtain ⟨ad176, A176_4, c176_4, e176, hx176_0, hx176_1, hx176_2, hx176_3, hx176_4, hl176_4, hi176_4⟩ := at_T69 (Kd.qES HO_8.out).2.2 x10_1 p176 q176
       cases e176
       obtain ⟨ce176, hce176, hMe176, hcc176⟩ := Kd.V_get HO_8.out z69 x10_1 p176 (by first | exact q176 | exact zd | (have e_ := (Kd.qES HO_8.out).1; omega))
       obtain ⟨ua176_4, uc176_4, rfl, ul176_4, ge176_4⟩ := k69_openF hMe176
       have hv176_4 := hcc176 4 _ rfl
       rw [qBV _ _ 4 (by omega)] at hv176_4
       replace hv176_4 := Option.some.inj (hv176_4.symm.trans hx176_4)
       injection hv176_4 with hva_ hvn_ hvc_
       rw [hva_] at ge176_4
       rw [hvc_] at ul176_4
       have HL176_4 := qA0.mk (show Kd.V k76 76 _ w.heap.size _ _ ((qAL l0 x10_1).f4) from Kd.V_mk ul176_4 ge176_4)
       clear hva_ hvn_ hvc_ ge176_4 ul176_4 hcc176 hce176
       have HR176_4 := qA0.mk hi176_4
       have HC176_4 := qA0.mk hl176_4
       clear hi176_4 hl176_4
       replace p176 := eq_true p176
       replace q176 := eq_true q176
       go_wp2_with (((with_reducible refine qAC (N := 7) rfl ?_); refine qAD ?hg (N := 7) ?hd (cs := #[.string (⟨#[]⟩ : ByteArray), .int .i64 0, .int .i64 0, .bool false, .slice none 0 0]) (t := 69) ?hr ?_; (case hd => rfl); (case hg => rfl); (case hr => first | (go_simp; done) | (go_simp; rfl)); intro gb177 hg w8 hbox hb; have BK177 := qA0.mk (hbox); have GW177 := zg w gb177; have GE177 := zg w gb177; have NB175_177 := zl BK175 gb177; have NB177_175 := zu BK175 gb177; replace HO_8 := qA0.mk (Kd.V_below (Kd.V_elderB (by (with_reducible repeat (first | apply Kd.V_alloc | apply Kd.qE8 | apply Kd.V_drew)); exact HO_8.out) gb177 (Nat.le_of_eq hg.symm)) hb); replace HL176_4 := qA0.mk (Kd.V_below (Kd.V_elderB (by (with_reducible repeat (first | apply Kd.V_alloc | apply Kd.qE8 | apply Kd.V_drew)); exact HL176_4.out) gb177 (Nat.le_of_eq hg.symm)) hb); replace BK175 := qA0.mk (qA5 (zk BK175) hb); replace HR176_4 := qA0.mk (Kd.qAQ (by repeat (first | (with_reducible exact HR176_4.out) | (with_reducible refine Kd.qFD ?_ _) | (with_reducible refine Kd.C_drewN ?_ _) | (with_reducible refine Kd.C_drew ?_) | exact HR176_4.out)) hb); replace HB := qA0.mk (qA1 zb hb); clear hb hbox hg; have hnb9 := NB177_175.out; have hnc9 := NB175_177.out; obtain ⟨hcz10_0, hcz10_1, hcz10_2, hcz10_3, hcz10_4, hfz10_0, hfz10_1, hfz10_2, hfz10_3, hfz10_4⟩ := bc5 BK177.out; obtain ⟨hcz11_0, hcz11_1, hcz11_2, hcz11_3, hcz11_4, hfz11_0, hfz11_1, hfz11_2, hfz11_3, hfz11_4⟩ := bc5 BK175.out))
       refine bodyPost_ret (qDR rfl _ _ gb175 69 #[.string ((qAL l0 x10_1).f0), .int .i64 ((qAL l0 x10_1).f1), .int .i64 ((qAL l0 x10_1).f2), .bool ((qAL l0 x10_1).f3), .slice A176_4 ((qAL l0 x10_1).f4).length c176_4] (0, 0) _ rfl (by refine zp_ (cs := #[.string ((qAL l0 x10_1).f0), .int .i64 ((qAL l0 x10_1).f1), .int .i64 ((qAL l0 x10_1).f2), .bool ((qAL l0 x10_1).f3), .slice none 0 0]) ?_ 4; refine zp_ (cs := #[.string ((qAL l0 x10_1).f0), .int .i64 ((qAL l0 x10_1).f1), .int .i64 ((qAL l0 x10_1).f2), .bool x176003_1, .slice none 0 0]) ?_ 3; refine zp_ (cs := #[.string ((qAL l0 x10_1).f0), .int .i64 ((qAL l0 x10_1).f1), .int .i64 x176002_1, .bool x176003_1, .slice none 0 0]) ?_ 2; refine zp_ (cs := #[.string ((qAL l0 x10_1).f0), .int .i64 x176001_1, .int .i64 x176002_1, .bool x176003_1, .slice none 0 0]) ?_ 1; refine zp_ (cs := #[.string x176000_1, .int .i64 x176001_1, .int .i64 x176002_1, .bool x176003_1, .slice none 0 0]) ?_ 0; refine zf_ ?_ NB175_177; refine zf_ ?_ NB175_177; refine zf_ ?_ NB175_177; refine zf_ ?_ NB175_177; refine zf_ ?_ NB175_177; (with_reducible repeat refine st ?_); exact BK175.out) Try.underlying69 rfl (by kernel_rfl)) rfl ?_
       exact ⟨_, zf, by (with_reducible repeat (first | apply Kd.V_alloc | apply Kd.qE8 | apply Kd.V_drew)); exact Kd.qF4 (Kd.qEG (Kd.qEG (Kd.qEG (Kd.qEG (Kd.qEG (Kd.qEG (Kd.qEG (Kd.qEG (Kd.qEG (Kd.qEG (Kd.qF4 (Kd.qF4 HL176_4.out (fun k_ hk => (⟨hk, hk.2⟩ : _ ∧ k_ ≠ gb177))) (fun k_ hk => (⟨hk, hk.1.1.2⟩ : _ ∧ k_ ≠ gb175))) (fun _ hk => hk.1.2) _) (fun _ hk => hk.1.2) _) (fun _ hk => hk.1.2) _) (fun _ hk => hk.1.2) _) (fun _ hk => hk.1.2) _) (fun _ hk => hk.2) _) (fun _ hk => hk.2) _) (fun _ hk => hk.2) _) (fun _ hk => hk.2) _) (fun _ hk => hk.2) _) (fun _ hk => hk.1.1.1.1), zb⟩
      ·rw [if_neg c7] at H
       have ⟨c7b0, c7b1⟩ := zn c7
       have H' := qA0.mk H
       clear H
       have p176 : 0 ≤ (x10_1 : Int) := zd
       have q176 : x10_1 < (l0.length : Int) := zd
       obtain ⟨ad176, A176_4, c176_4, e176, hx176_0, hx176_1, hx176_2, hx176_3, hx176_4, hl176_4, hi176_4⟩ := at_T69 (Kd.qES HO_8.out).2.2 x10_1 p176 q176
       cases e176
       obtain ⟨ce176, hce176, hMe176, hcc176⟩ := Kd.V_get HO_8.out z69 x10_1 p176 (by first | exact q176 | exact zd | (have e_ := (Kd.qES HO_8.out).1; omega))
       obtain ⟨ua176_4, uc176_4, rfl, ul176_4, ge176_4⟩ := k69_openF hMe176
       have hv176_4 := hcc176 4 _ rfl
       rw [qBV _ _ 4 (by omega)] at hv176_4
       replace hv176_4 := Option.some.inj (hv176_4.symm.trans hx176_4)
       injection hv176_4 with hva_ hvn_ hvc_
       rw [hva_] at ge176_4
       rw [hvc_] at ul176_4
       have HL176_4 := qA0.mk (show Kd.V k76 76 _ w.heap.size _ _ ((qAL l0 x10_1).f4) from Kd.V_mk ul176_4 ge176_4)
       clear hva_ hvn_ hvc_ ge176_4 ul176_4 hcc176 hce176
       have HR176_4 := qA0.mk hi176_4
       have HC176_4 := qA0.mk hl176_4
       clear hi176_4 hl176_4
       replace p176 := eq_true p176
       replace q176 := eq_true q176
       go_wp2_with (((with_reducible refine qAC (N := 7) rfl ?_); refine qAD ?hg (N := 7) ?hd (cs := #[.string (⟨#[]⟩ : ByteArray), .int .i64 0, .int .i64 0, .bool false, .slice none 0 0]) (t := 69) ?hr ?_; (case hd => rfl); (case hg => rfl); (case hr => first | (go_simp; done) | (go_simp; rfl)); intro gb177 hg w12 hbox hb; have BK177 := qA0.mk (hbox); have GW177 := zg w gb177; have GE177 := zg w gb177; have NB175_177 := zl BK175 gb177; have NB177_175 := zu BK175 gb177; replace HO_8 := qA0.mk (Kd.V_below (Kd.V_elderB (by (with_reducible repeat (first | apply Kd.V_alloc | apply Kd.qE8 | apply Kd.V_drew)); exact HO_8.out) gb177 (Nat.le_of_eq hg.symm)) hb); replace HL176_4 := qA0.mk (Kd.V_below (Kd.V_elderB (by (with_reducible repeat (first | apply Kd.V_alloc | apply Kd.qE8 | apply Kd.V_drew)); exact HL176_4.out) gb177 (Nat.le_of_eq hg.symm)) hb); replace BK175 := qA0.mk (qA5 (zk BK175) hb); replace HR176_4 := qA0.mk (Kd.qAQ (by repeat (first | (with_reducible exact HR176_4.out) | (with_reducible refine Kd.qFD ?_ _) | (with_reducible refine Kd.C_drewN ?_ _) | (with_reducible refine Kd.C_drew ?_) | exact HR176_4.out)) hb); replace HB := qA0.mk (qA1 zb hb); clear hb hbox hg; have hnb13 := NB177_175.out; have hnc13 := NB175_177.out; obtain ⟨hcz14_0, hcz14_1, hcz14_2, hcz14_3, hcz14_4, hfz14_0, hfz14_1, hfz14_2, hfz14_3, hfz14_4⟩ := bc5 BK177.out))
       go_roundg k1
       case measure => have := HK1.out; omega
       case rel => exact ⟨(wrap64 (x10_1 + 1)), (x176000_1), (x176001_1), (x176002_1), (x176003_1), zs, H', ⟨by have := HK1.out; omega⟩, ⟨by (with_reducible repeat (first | apply Kd.V_alloc | apply Kd.qE8 | apply Kd.V_drew)); exact Kd.qF4 (Kd.qEG (Kd.qEG (Kd.qEG (Kd.qEG (Kd.qEG (Kd.qF4 HO_8.out (fun k_ hk => (⟨hk, hk.2⟩ : _ ∧ k_ ≠ gb177))) (fun _ hk => hk.2) _) (fun _ hk => hk.2) _) (fun _ hk => hk.2) _) (fun _ hk => hk.2) _) (fun _ hk => hk.2) _) (fun _ hk => ⟨hk.1.1.1, hk.1.1.2⟩)⟩, ⟨by refine zf_ ?_ NB175_177; refine zf_ ?_ NB175_177; refine zf_ ?_ NB175_177; refine zf_ ?_ NB175_177; refine zf_ ?_ NB175_177; (with_reducible repeat refine st ?_); exact BK175.out⟩, ⟨zb⟩⟩
     ·rw [if_neg c6] at H
      exact absurd H (by simp)
    ·rw [if_neg c5] at H
     exact absurd H (by simp)
   ·rw [if_neg c4] at H
    have c4b0 := decide_eq_false c4
    clear c4
    simp only [Option.some.injEq, Prod.mk.injEq] at H
    obtain ⟨rfl, rfl, rfl, rfl, rfl, rfl⟩ := H
    obtain ⟨hcz15_0, hcz15_1, hcz15_2, hcz15_3, hcz15_4, hfz15_0, hfz15_1, hfz15_2, hfz15_3, hfz15_4⟩ := bc5 BK175.out
    go_wp2
    refine bodyPost_ret (qDR rfl _ _ gb175 69 #[.string (⟨#[]⟩ : ByteArray), .int .i64 0, .int .i64 0, .bool false, .slice none 0 0] (0, 0) _ rfl (by (with_reducible repeat refine st ?_); refine qAJ (cs := #[.string (⟨#[]⟩ : ByteArray), .int .i64 0, .int .i64 0, .bool false, .slice none 0 0]) ?_ 4 _ rfl; (with_reducible repeat refine st ?_); refine qAJ (cs := #[.string (⟨#[]⟩ : ByteArray), .int .i64 0, .int .i64 0, .bool x176003_1, .slice none 0 0]) ?_ 3 _ rfl; (with_reducible repeat refine st ?_); refine qAJ (cs := #[.string (⟨#[]⟩ : ByteArray), .int .i64 0, .int .i64 x176002_1, .bool x176003_1, .slice none 0 0]) ?_ 2 _ rfl; (with_reducible repeat refine st ?_); refine qAJ (cs := #[.string (⟨#[]⟩ : ByteArray), .int .i64 x176001_1, .int .i64 x176002_1, .bool x176003_1, .slice none 0 0]) ?_ 1 _ rfl; refine zp_ (cs := #[.string x176000_1, .int .i64 x176001_1, .int .i64 x176002_1, .bool x176003_1, .slice none 0 0]) ?_ 0; (with_reducible repeat refine st ?_); exact BK175.out) Try.underlying69 rfl (by kernel_rfl)) rfl ?_
    exact ⟨_, zf, (Kd.V_nil _ _ _ _ _), zb⟩
def NilApp (t : TypeId) (x : Value) (w : World) (Q : Ending → World → Prop) : Prop := ∃ v w1, (Builtin.append_ #[t, t] t #[.slice none 0 0, x]).run Try.prog w = .ok v w1 ∧ Q (.returned v) w1
theorem NilApp.mono {t : TypeId} {x : Value} {w : World} {Q Q' : Ending → World → Prop} (h : NilApp t x w Q) (hq : ∀ e w', Q e w' → Q' e w') : NilApp t x w Q' := by
 obtain ⟨v, w1, hr, h⟩ := h
 exact ⟨v, w1, hr, hq _ _ h⟩
theorem nilapp_ {ops : Array Oper} {rest : List Oper} {oi : Oper} {a : Act} {w : World} {Q : Exit → Act → World → Prop} (N : Option Tmp) (hd : oi.dst = N) (hg : oi.guard = none) (t : TypeId) (s x : Operand) (hop : oi.op = .call { callee := .builtin .append, args := #[s, x], argTypes := #[t, t] }) (ht : oi.type = t)
  (hs : a.eval s = .slice none 0 0) (v : Value) (hx : a.eval x = v) (h : NilApp t v w fun e w' => ∃ v, e = .returned v ∧ wpList Try.prog ops Q rest (a.put N v) w') : wpList Try.prog ops Q (oi :: rest) a w := by
 obtain ⟨v1, w1, hr, v2, e, hK0⟩ := h
 obtain rfl := Ending.returned.inj e
 refine wpList_plain hg fun K hK => ?_
 unfold Oper.wp execOp
 simp only [hop, resolve, invoke, builtin, Sem.run_bind, Sem.run_pure, Result.andThen_ok, List.map_toArray, List.map_cons, List.map_nil, hs, hx, ht, hr]
 subst hd
 exact hK _ _ hK0
def qCR.f (l0 : List S76) : Option (List S76) := if l0.length * 16 ≤ 140737488355328 then some l0 else none
def qCR.enc (x : S76) : List Value := [.int .i64 x.f0, .int .i64 x.f1]
theorem qCR.info : (Try.prog.info? 76).map (fun i => (i.zero, i.size, i.bytes)) = some (some (.agg #[.int .i64 0, .int .i64 0]), 2, 16) := by kernel_rfl
theorem qCR.calls (A0 : Option Addr) (c0 : Nat) (l0 : List S76) (r : List S76) (w : World) (hr0 : Kd.C k76 w A0 l0.length l0) (hc0 : l0.length ≤ c0) (h : qCR.f l0 = some r) :
  NilApp 67 (.slice A0 l0.length c0) w fun e w' => ∃ v0_ : Value, e = .returned (v0_) ∧ Kd.R k76 76 w' w.heap.size (fun _ => True) v0_ r ∧ Below w.heap.size w w' := by
 unfold qCR.f at h
 by_cases hsz : l0.length * 16 ≤ 140737488355328
 case neg => rw [if_neg hsz] at h; cases h
 rw [if_pos hsz] at h
 obtain rfl := Option.some.inj h
 clear h
 obtain ⟨i0, hi, hz0, hz1, hz2⟩ := info_parts qCR.info
 have HO := own_nil w w.heap.size 76 2
 cases A0 with
 | none =>
  have e0 : l0 = [] := by
   rcases Nat.eq_zero_or_pos l0.length with h | h
   ·exact List.length_eq_zero_iff.1 h
   ·obtain ⟨_, h', _⟩ := hr0.2.2 h; cases h'
  subst e0
  refine ⟨.slice none 0 0, w, ?_, _, rfl, Kd.R_nil _ _ _ _ _, Below.refl _ _⟩
  simp [Builtin.append_, run_underlying Try.underlying67, sizeOf, typeInfo, hi, Builtin.lenOf, Builtin.firstCells]
 | some ad =>
  have hlen := Gen.flat_len qCR.enc 2 (fun _ => rfl) l0
  obtain ⟨v1, w1, hr, h2, h3, _, h5⟩ := run_append_own_at (P := Try.prog) w w.heap.size 67 67 76 i0 (.agg #[.int .i64 0, .int .i64 0]) 2 16 Try.underlying67 hi hz0 hz1 hz2 rfl (by decide) (.slice none 0 0) 0 [] HO ad l0.length c0 (l0.flatMap qCR.enc) hlen (Gen.flat_cells qCR.enc 2 (by decide) (fun _ => rfl) (fun p c h => k76_open h) hr0)
   (fun u hu => by obtain ⟨x, _, hx⟩ := List.mem_flatMap.1 hu; simp [qCR.enc] at hx; rcases hx with rfl | rfl <;> rfl) (by simp only [maxLen]; omega) (by rw [Nat.zero_add]; exact hsz) (Nat.le_refl _)
  refine ⟨v1, w1, hr, v1, rfl, ⟨fun _ _ => trivial, _, (by rw [Nat.zero_add, List.nil_append] at h2; exact h2), Gen.flat_reps _ qCR.enc 2 (fun _ => rfl) l0 (fun p => k76_mkM _ _ _ p)⟩, (Below.refl _ w).grown h3 (Nat.le_refl _) (fun k hk => by simp [Value.ownBlock] at hk)⟩
end
end Go.Proofs.Ytnliaialemfcaaa.PRateFinds
end
section
namespace Go.Proofs.Ytnliaialemfcaaa.PRateFinds
noncomputable section
open Go.RowKit Go.Proofs.YtnliaialemfcaaaW.PrintWords Go.Proofs.YtnliaialemfcaaaW.PrintLast Go.Proofs.YtnliaialemfcaaaW.PrintMore
mutual
def qAP.l0 : Nat → List (S69) → List (S48) → Int → Int → Option ((List (S69)))
 | 0, _, _, _, _ => none
 | k + 1, x3, x8, x9, x10 => if x10 < x9 then (if 0 ≤ x10 then (if x10 < (x8.length : Int) then (qAP.l1 k x3 x8 x9 x10 ((qA3 x8 x10).f4) (((qA3 x8 x10).f4).length : Int) 0) else (none)) else (none)) else (some x3)
def qAP.l1 : Nat → List (S69) → List (S48) → Int → Int → List (S69) → Int → Int → Option ((List (S69)))
 | 0, _, _, _, _, _, _, _ => none
 | k + 1, x3, x8, x9, x10, x15, x16, x17 => if x17 < x16 then (if 0 ≤ x17 then (if x17 < (x15.length : Int) then ((qCR.f ((qAL x15 x17).f4)).bind fun t182 => (if x3.length < 2199023255552 then (qAP.l1 k (x3 ++ [(⟨(qAL x15 x17).f0, (qAL x15 x17).f1, (qAL x15 x17).f2, (qAL x15 x17).f3, t182⟩ : S69)]) x8 x9 x10 x15 x16 (wrap64 (x17 + 1))) else (none))) else (none)) else (none)) else (qAP.l0 k x3 x8 x9 (wrap64 (x10 + 1)))
end
def qAP.f (k : Nat) (l0 : List (S48)) : Option ((List (S69))) := qAP.l0 k ([] : List (S69)) l0 (l0.length : Int) 0
theorem qAP.qBY : ∀ k, (∀ y0 y1 y2 y3, LeO (qAP.l0 k y0 y1 y2 y3) (qAP.l0 (k + 1) y0 y1 y2 y3)) ∧ (∀ y0 y1 y2 y3 y4 y5 y6, LeO (qAP.l1 k y0 y1 y2 y3 y4 y5 y6) (qAP.l1 (k + 1) y0 y1 y2 y3 y4 y5 y6))
 | 0 => ⟨fun _ _ _ _ r h => by simp [qAP.l0] at h, fun _ _ _ _ _ _ _ r h => by simp [qAP.l1] at h⟩
 | k + 1 => by
  obtain ⟨ih0, ih1⟩ := qAP.qBY k
  refine ⟨?_, ?_⟩
  ·intro y0 y1 y2 y3
   unfold qAP.l0
   exact zm
  ·intro y0 y1 y2 y3 y4 y5 y6
   unfold qAP.l1
   exact zm
theorem qAP.mono : ∀ a0 k, LeO (qAP.f k a0) (qAP.f (k + 1) a0) := by
 intro a0 k
 obtain ⟨ih0, ih1⟩ := qAP.qBY k
 unfold qAP.f
 exact zm
set_option maxHeartbeats 8000000 in
set_option maxRecDepth 100000 in
theorem qAP.calls (k : Nat) (A0 : Option Addr) (c0 : Nat) (l0 : List (S48)) (r : List (S69)) (w : World) (hr0 : Kd.C k48 w A0 l0.length l0) (hc0 : l0.length ≤ c0) (h : qAP.f k l0 = some r) :
  Calls Try.prog 54 #[.slice A0 l0.length c0] w fun e w' => ∃ v0_ : Value, e = .returned (v0_) ∧ Kd.S k69 69 w' w.heap.size (fun _ => True) v0_ r ∧ Below w.heap.size w w' := by
 have hu48 := Try.underlying48
 have hu69 := Try.underlying69
 have HR0 := qA0.mk hr0
 have HC0 := qA0.mk hc0
 clear hr0 hc0
 have HB := qA0.mk (Below.refl w.heap.size w)
 have H : (qAP.l0 k ([] : List (S69)) l0 (l0.length : Int) 0) = some r := h
 clear h
 have H' := qA0.mk H
 clear H
 go_enter Try.func54, Try.ntmps54
 go_wp2
 go_loopg [3, 10] k (fun kq v3 v10 w' => ∃ (x3_1 : List (S69)) (x10_1 : Int), v10 = .int .i64 x10_1 ∧ qA0 (qAP.l0 kq x3_1 l0 (l0.length : Int) x10_1 = some r) ∧ qA0 (kq ≤ k) ∧ qA0 (Kd.S k69 69 w' w.heap.size (fun _ => True) v3 x3_1) ∧ qA0 (Below w.heap.size w w'))
 case atStart => exact ⟨(([] : List (S69))), (0), zs, H', ⟨Nat.le_refl _⟩, ⟨by first | exact Kd.S_nil _ _ _ _ _ | exact Kd.N_nil _ _ _ _ _ | exact Kd.V_nil _ _ _ _ _ | exact Kd.Q_nil _ _ _ _ _ | exact Kd.R_nil _ _ _ _ _⟩, ⟨zb⟩⟩
 case round =>
  clear H'
  obtain ⟨x3_1, x10_1, rfl, HA, HK1, HO_3, HB⟩ := hrel
  cases gk with
  | zero => exact absurd HA.out (by simp [qAP.l0])
  | succ k1 =>
   have H := HA.out
   clear HA
   simp only [qAP.l0] at H
   by_cases c2 : x10_1 < (l0.length : Int)
   ·rw [if_pos c2] at H
    have c2b0 := decide_eq_true c2
    clear c2
    by_cases c3 : 0 ≤ x10_1
    ·rw [if_pos c3] at H
     have c3b0 := decide_eq_true c3
     clear c3
     by_cases c4 : x10_1 < (l0.length : Int)
     ·rw [if_pos c4] at H
      have c4b0 := decide_eq_true c4
      clear c4
      have H' := qA0.mk H
      clear H
      have p178 : 0 ≤ (x10_1 : Int) := zd
      have q178 : x10_1 < (l0.length : Int) := zd
      obtain ⟨ad178, A178_3, c178_3, A178_4, c178_4, A178_5, c178_5, e178, hx178_0, hx178_1, hx178_2, hx178_3, hx178_4, hx178_5, hl178_3, hi178_3, hl178_4, hi178_4, hl178_5, hi178_5⟩ := qEM HR0.out x10_1 p178 q178
      cases e178
      (try replace hx178_0 := zh hx178_0)
      replace hx178_1 := zh hx178_1
      replace hx178_2 := zh hx178_2
      replace hx178_3 := zh hx178_3
      replace hx178_4 := zh hx178_4
      replace hx178_5 := zh hx178_5
      have HR178_3 := qA0.mk hi178_3
      have HC178_3 := qA0.mk hl178_3
      clear hi178_3 hl178_3
      have HR178_4 := qA0.mk hi178_4
      have HC178_4 := qA0.mk hl178_4
      clear hi178_4 hl178_4
      have HR178_5 := qA0.mk hi178_5
      have HC178_5 := qA0.mk hl178_5
      clear hi178_5 hl178_5
      replace p178 := eq_true p178
      replace q178 := eq_true q178
      go_wp2_with (((with_reducible refine qAC (N := 5) rfl ?_); refine qAD ?hg (N := 5) ?hd (cs := #[.string (⟨#[]⟩ : ByteArray), .int .i64 0, .int .i64 0, .slice none 0 0, .slice none 0 0, .slice none 0 0]) (t := 48) ?hr ?_; (case hd => rfl); (case hg => rfl); (case hr => first | (go_simp; done) | (go_simp; rfl)); intro gb179 hg w5 hbox hb; have BK179 := qA0.mk (hbox); have GW179 := zg w gb179; have GE179 := zg w gb179; replace HO_3 := qA0.mk (Kd.qDO (by (with_reducible repeat refine sS ?_); exact HO_3.out) hb); replace HB := qA0.mk (qA1 zb hb); clear hb hbox hg; obtain ⟨hcz6_0, hcz6_1, hcz6_2, hcz6_3, hcz6_4, hcz6_5, hfz6_0, hfz6_1, hfz6_2, hfz6_3, hfz6_4, hfz6_5⟩ := bc6 BK179.out))
      go_loopg [3, 17] k1 (fun kq v3 v17 w' => ∃ (x3_2 : List (S69)) (x17_2 : Int), v17 = .int .i64 x17_2 ∧ qA0 (qAP.l1 kq x3_2 l0 (l0.length : Int) x10_1 ((qA3 l0 x10_1).f4) (((qA3 l0 x10_1).f4).length : Int) x17_2 = some r) ∧ qA0 (kq ≤ k1) ∧ qA0 (Kd.S k69 69 w' w.heap.size (fun _ => True) v3 x3_2) ∧ qA0 (w'.heap[gb179]? = some (.cells #[.string ((qA3 l0 x10_1).f0), .int .i64 ((qA3 l0 x10_1).f1), .int .i64 ((qA3 l0 x10_1).f2), (.slice A178_3 ((qA3 l0 x10_1).f3).length c178_3), (.slice A178_4 ((qA3 l0 x10_1).f4).length c178_4), (.slice A178_5 ((qA3 l0 x10_1).f5).length c178_5)] 48 (0, 0))) ∧ qA0 (Below w.heap.size w w'))
      case atStart => exact ⟨(x3_1), (0), zs, H', ⟨Nat.le_refl _⟩, ⟨by (with_reducible repeat refine sS ?_); exact Kd.qDI (Kd.qCA (Kd.qCA (Kd.qCA (Kd.qCA (Kd.qCA (Kd.qCA (Kd.qE9 HO_3.out BK179.out (by decide)) (fun _ hk => hk.2) _) (fun _ hk => hk.2) _) (fun _ hk => hk.2) _) (fun _ hk => hk.2) _) (fun _ hk => hk.2) _) (fun _ hk => hk.2) _) (fun _ hk => trivial)⟩, ⟨by refine zp_ (cs := #[.string ((qA3 l0 x10_1).f0), .int .i64 ((qA3 l0 x10_1).f1), .int .i64 ((qA3 l0 x10_1).f2), .slice A178_3 ((qA3 l0 x10_1).f3).length c178_3, .slice A178_4 ((qA3 l0 x10_1).f4).length c178_4, .slice none 0 0]) ?_ 5; refine zp_ (cs := #[.string ((qA3 l0 x10_1).f0), .int .i64 ((qA3 l0 x10_1).f1), .int .i64 ((qA3 l0 x10_1).f2), .slice A178_3 ((qA3 l0 x10_1).f3).length c178_3, .slice none 0 0, .slice none 0 0]) ?_ 4; refine zp_ (cs := #[.string ((qA3 l0 x10_1).f0), .int .i64 ((qA3 l0 x10_1).f1), .int .i64 ((qA3 l0 x10_1).f2), .slice none 0 0, .slice none 0 0, .slice none 0 0]) ?_ 3; refine zp_ (cs := #[.string ((qA3 l0 x10_1).f0), .int .i64 ((qA3 l0 x10_1).f1), .int .i64 0, .slice none 0 0, .slice none 0 0, .slice none 0 0]) ?_ 2; refine zp_ (cs := #[.string ((qA3 l0 x10_1).f0), .int .i64 0, .int .i64 0, .slice none 0 0, .slice none 0 0, .slice none 0 0]) ?_ 1; (with_reducible repeat refine st ?_); refine qAJ (cs := #[.string (⟨#[]⟩ : ByteArray), .int .i64 0, .int .i64 0, .slice none 0 0, .slice none 0 0, .slice none 0 0]) ?_ 0 _ rfl; (with_reducible repeat refine st ?_); exact BK179.out⟩, ⟨zb⟩⟩
      case round =>
       clear H' c2b0 c3b0 c4b0 hcz6_0 hcz6_1 hcz6_2 hcz6_3 hcz6_4 hcz6_5 hfz6_0 hfz6_1 hfz6_2 hfz6_3 hfz6_4 hfz6_5 hx178_0 hx178_1 hx178_2 hx178_3 hx178_4 hx178_5 p178 q178
       obtain ⟨x3_2, x17_2, rfl, HA, HK2, HO_3, BK179, HB⟩ := hrel
       cases gk with
       | zero => exact absurd HA.out (by simp [qAP.l1])
       | succ k2 =>
        have H := HA.out
        clear HA
        simp only [qAP.l1] at H
        by_cases c7 : x17_2 < (((qA3 l0 x10_1).f4).length : Int)
        ·rw [if_pos c7] at H
         have c7b0 := decide_eq_true c7
         clear c7
         by_cases c8 : 0 ≤ x17_2
         ·rw [if_pos c8] at H
          have c8b0 := decide_eq_true c8
          clear c8
          by_cases c9 : x17_2 < (((qA3 l0 x10_1).f4).length : Int)
          ·rw [if_pos c9] at H
           have c9b0 := decide_eq_true c9
           clear c9
           replace H := Option.bind_eq_some_iff.mp H
           obtain ⟨t182, A100, H⟩ := H
           have A10 := qA0.mk A100
           clear A100
           by_cases c11 : x3_2.length < 2199023255552
           ·rw [if_pos c11] at H
            have LMc11 := qA0.mk c11
            clear c11
            obtain ⟨y185, hy_⟩ : ∃ y_ : List (S69), y_ = (x3_2 ++ [(⟨(qAL ((qA3 l0 x10_1).f4) x17_2).f0, (qAL ((qA3 l0 x10_1).f4) x17_2).f1, (qAL ((qA3 l0 x10_1).f4) x17_2).f2, (qAL ((qA3 l0 x10_1).f4) x17_2).f3, t182⟩ : S69)]) := ⟨_, rfl⟩
            replace H : (qAP.l1 k2 y185 l0 (l0.length : Int) x10_1 ((qA3 l0 x10_1).f4) (((qA3 l0 x10_1).f4).length : Int) (wrap64 (x17_2 + 1))) = some r := zr
            have Ny185 := qA0.mk hy_
            clear hy_
            have H' := qA0.mk H
            clear H
            have p180 : 0 ≤ (x17_2 : Int) := zd
            have q180 : x17_2 < (((qA3 l0 x10_1).f4).length : Int) := zd
            obtain ⟨ad180, A180_4, c180_4, e180, hx180_0, hx180_1, hx180_2, hx180_3, hx180_4, hl180_4, hi180_4⟩ := at_T69 HR178_4.out x17_2 p180 q180
            cases e180
            (try replace hx180_0 := zh hx180_0)
            replace hx180_1 := zh hx180_1
            replace hx180_2 := zh hx180_2
            replace hx180_3 := zh hx180_3
            replace hx180_4 := zh hx180_4
            have HR180_4 := qA0.mk hi180_4
            have HC180_4 := qA0.mk hl180_4
            clear hi180_4 hl180_4
            replace p180 := eq_true p180
            replace q180 := eq_true q180
            go_wp2_with (first | ((with_reducible refine qAC (N := 7) rfl ?_); refine qAD ?hg (N := 7) ?hd (cs := #[.string (⟨#[]⟩ : ByteArray), .int .i64 0, .int .i64 0, .bool false, .slice none 0 0]) (t := 69) ?hr ?_; (case hd => rfl); (case hg => rfl); (case hr => first | (go_simp; done) | (go_simp; rfl)); intro gb181 hg w12 hbox hb; have BK181 := qA0.mk (hbox); have GW181 := zg w gb181; have GE181 := zg w gb181; have NB179_181 := zl BK179 gb181; have NB181_179 := zu BK179 gb181; replace HO_3 := qA0.mk (Kd.qDO (Kd.S_elderB (by (with_reducible repeat refine sS ?_); exact HO_3.out) gb181 (Nat.le_of_eq hg.symm)) hb); replace BK179 := qA0.mk (qA5 (zk BK179) hb); replace HB := qA0.mk (qA1 zb hb); clear hb hbox hg; have hnb13 := NB181_179.out; have hnc13 := NB179_181.out; obtain ⟨hcz14_0, hcz14_1, hcz14_2, hcz14_3, hcz14_4, hfz14_0, hfz14_1, hfz14_2, hfz14_3, hfz14_4⟩ := bc5 BK181.out) | (at_builtin; refine nilapp_ (some 23) rfl rfl _ _ _ rfl rfl rfl (.slice A180_4 ((qAL ((qA3 l0 x10_1).f4) x17_2).f4).length c180_4) rfl ?_; (with_reducible refine (qCR.calls _ _ ((qAL ((qA3 l0 x10_1).f4) x17_2).f4) t182 _ ?side1 ?side2 A10.out).mono ?_); (case side1 => exact Kd.qAQ HR180_4.out zb); (case side2 => exact HC180_4.out); rintro e w15 ⟨v183, rfl, ho0, hb⟩; refine ⟨_, rfl, ?_⟩; have HO184 := qA0.mk (Kd.qC9 ho0 (qAM zb)); replace HO_3 := qA0.mk (Kd.S_elder' (by (with_reducible repeat refine sS ?_); exact (Kd.qDI (Kd.qCA (Kd.qCA (Kd.qCA (Kd.qCA (Kd.qCA (Kd.qDI HO_3.out (fun k_ hk => (⟨hk, hk.2⟩ : _ ∧ k_ ≠ gb181))) (fun _ hk => hk.2) _) (fun _ hk => hk.2) _) (fun _ hk => hk.2) _) (fun _ hk => hk.2) _) (fun _ hk => hk.2) _) (fun _ h_ => h_.1))) (Kd.qEO ho0) hb); replace BK179 := qA0.mk (qA5 (g := gb179) (o := .cells #[.string ((qA3 l0 x10_1).f0), .int .i64 ((qA3 l0 x10_1).f1), .int .i64 ((qA3 l0 x10_1).f2), .slice A178_3 ((qA3 l0 x10_1).f3).length c178_3, .slice (some ad180) ((qA3 l0 x10_1).f4).length c178_4, .slice A178_5 ((qA3 l0 x10_1).f5).length c178_5] 48 (0, 0)) (by refine zf_ ?_ NB179_181; refine zf_ ?_ NB179_181; refine zf_ ?_ NB179_181; refine zf_ ?_ NB179_181; refine zf_ ?_ NB179_181; (with_reducible repeat refine st ?_); exact BK179.out) hb); replace BK181 := qA0.mk (qA5 (g := gb181) (o := .cells #[.string ((qAL ((qA3 l0 x10_1).f4) x17_2).f0), .int .i64 ((qAL ((qA3 l0 x10_1).f4) x17_2).f1), .int .i64 ((qAL ((qA3 l0 x10_1).f4) x17_2).f2), .bool ((qAL ((qA3 l0 x10_1).f4) x17_2).f3), .slice A180_4 ((qAL ((qA3 l0 x10_1).f4) x17_2).f4).length c180_4] 69 (0, 0)) (by refine zp_ (cs := #[.string ((qAL ((qA3 l0 x10_1).f4) x17_2).f0), .int .i64 ((qAL ((qA3 l0 x10_1).f4) x17_2).f1), .int .i64 ((qAL ((qA3 l0 x10_1).f4) x17_2).f2), .bool ((qAL ((qA3 l0 x10_1).f4) x17_2).f3), .slice none 0 0]) ?_ 4; refine zp_ (cs := #[.string ((qAL ((qA3 l0 x10_1).f4) x17_2).f0), .int .i64 ((qAL ((qA3 l0 x10_1).f4) x17_2).f1), .int .i64 ((qAL ((qA3 l0 x10_1).f4) x17_2).f2), .bool false, .slice none 0 0]) ?_ 3; refine zp_ (cs := #[.string ((qAL ((qA3 l0 x10_1).f4) x17_2).f0), .int .i64 ((qAL ((qA3 l0 x10_1).f4) x17_2).f1), .int .i64 0, .bool false, .slice none 0 0]) ?_ 2; refine zp_ (cs := #[.string ((qAL ((qA3 l0 x10_1).f4) x17_2).f0), .int .i64 0, .int .i64 0, .bool false, .slice none 0 0]) ?_ 1; (with_reducible repeat refine st ?_); refine qAJ (cs := #[.string (⟨#[]⟩ : ByteArray), .int .i64 0, .int .i64 0, .bool false, .slice none 0 0]) ?_ 0 _ rfl; (with_reducible repeat refine st ?_); exact BK181.out) hb); replace HB := qA0.mk (qA1 zb hb); (try clear hb); (try clear hb2); (try clear hk); (try clear hi); (try clear ho0); obtain ⟨Ao16, co16, eo16⟩ := Kd.qBW HO184.out; subst eo16; obtain ⟨hcz17_0, hcz17_1, hcz17_2, hcz17_3, hcz17_4, hfz17_0, hfz17_1, hfz17_2, hfz17_3, hfz17_4⟩ := bc5 BK181.out) | ((with_reducible refine qCB (t := 67) (p := 24) rfl ?_); refine qDK (t := 67) (p := 24) (v := ?vo_w18) (w1 := (w15.setCell ⟨gb181, 4, none⟩ (.slice Ao16 t182.length co16))) ?hg ?ho ?hn ?hr ?_; (case ho => rfl); (case hg => rfl); (case hn => rfl); (case hr => first | (go_simp; done) | (go_simp; rfl)); intro w18 hw; have n0_ : qA0 (Kd.S k69 69 w18 w.heap.size (fun k_ => some k_ ≠ (.slice Ao16 t182.length co16 : Value).ownBlock ∧ k_ ≠ gb181) u3 x3_2) := ⟨(by rw [hw]; exact (by (with_reducible repeat refine sS ?_); exact Kd.qDI (Kd.qCA (Kd.qDI HO_3.out (fun k_ hk => (⟨hk, hk.1.2⟩ : _ ∧ k_ ≠ gb181))) (fun _ hk => hk.2) _) (fun _ hk => ⟨hk.1.2, hk.1.1.2⟩)))⟩; have n1_ : qA0 (Kd.R k76 76 w18 w.heap.size (fun _ => True) (.slice Ao16 t182.length co16) t182) := ⟨(by rw [hw]; exact (by (with_reducible repeat (first | apply Kd.qDG | apply Kd.qDF | apply Kd.qDJ)); exact Kd.qB6 (Kd.qAS (Kd.qBZ HO184.out BK181.out (by decide)) (fun _ hk => hk.2) _) (fun _ hk => trivial)))⟩; have n2_ : qA0 (w18.heap[gb179]? = some (.cells #[.string ((qA3 l0 x10_1).f0), .int .i64 ((qA3 l0 x10_1).f1), .int .i64 ((qA3 l0 x10_1).f2), .slice A178_3 ((qA3 l0 x10_1).f3).length c178_3, .slice (some ad180) ((qA3 l0 x10_1).f4).length c178_4, .slice A178_5 ((qA3 l0 x10_1).f5).length c178_5] 48 (0, 0))) := ⟨(by rw [hw]; exact (by refine zf_ ?_ NB179_181; (with_reducible repeat refine st ?_); exact BK179.out))⟩; have n3_ : qA0 (w18.heap[gb181]? = some (.cells #[.string ((qAL ((qA3 l0 x10_1).f4) x17_2).f0), .int .i64 ((qAL ((qA3 l0 x10_1).f4) x17_2).f1), .int .i64 ((qAL ((qA3 l0 x10_1).f4) x17_2).f2), .bool ((qAL ((qA3 l0 x10_1).f4) x17_2).f3), .slice Ao16 t182.length co16] 69 (0, 0))) := ⟨(by rw [hw]; exact (by refine zp_ (cs := #[.string ((qAL ((qA3 l0 x10_1).f4) x17_2).f0), .int .i64 ((qAL ((qA3 l0 x10_1).f4) x17_2).f1), .int .i64 ((qAL ((qA3 l0 x10_1).f4) x17_2).f2), .bool ((qAL ((qA3 l0 x10_1).f4) x17_2).f3), .slice A180_4 ((qAL ((qA3 l0 x10_1).f4) x17_2).f4).length c180_4]) ?_ 4; (with_reducible repeat refine st ?_); exact BK181.out))⟩; have n4_ : qA0 (Below w.heap.size w w18) := ⟨(by rw [hw]; exact zb)⟩; clear hw; clear HO_3; clear HO184; clear BK179; clear BK181; clear HB; have HO_3 := n0_; have HO184 := n1_; have BK179 := n2_; have BK181 := n3_; have HB := n4_; clear n0_ n1_ n2_ n3_ n4_; obtain ⟨hcz19_0, hcz19_1, hcz19_2, hcz19_3, hcz19_4, hfz19_0, hfz19_1, hfz19_2, hfz19_3, hfz19_4⟩ := bc5 BK181.out) | ((with_reducible refine qDM (b := .append) (xs := #[.tmp 25, .tmp 27]) rfl ?_); at_builtin; refine Kd.S_append k69 (w0 := w) w.heap.size rfl (.tmp 25) (.tmp 27) 45 69 (.agg #[(.string ⟨#[]⟩), (.int .i64 0), (.int .i64 0), (.bool false), (.slice none 0 0)]) 64 rfl Try.underlying45 info69 rfl (by decide) (by omega) u3 x3_2 (⟨(qAL ((qA3 l0 x10_1).f4) x17_2).f0, (qAL ((qA3 l0 x10_1).f4) x17_2).f1, (qAL ((qA3 l0 x10_1).f4) x17_2).f2, (qAL ((qA3 l0 x10_1).f4) x17_2).f3, t182⟩ : S69) [.string ((qAL ((qA3 l0 x10_1).f4) x17_2).f0), .int .i64 ((qAL ((qA3 l0 x10_1).f4) x17_2).f1), .int .i64 ((qAL ((qA3 l0 x10_1).f4) x17_2).f2), .bool ((qAL ((qA3 l0 x10_1).f4) x17_2).f3), .slice Ao16 t182.length co16] (fun k_ => k_ ≠ gb181) (fun k_ => some k_ = (.slice Ao16 t182.length co16 : Value).ownBlock) rfl rfl ?aP (fun k_ hk_ => ((Kd.qB6 (ok' := fun k_ => ((fun k_ => k_ ≠ gb181)) k_ ∧ some k_ ≠ (u3 : Value).ownBlock) (Kd.qBZ (Kd.R_apart' (HO184.out) (Kd.S_typed HO_3.out) (by decide)) BK181.out (by decide)) (fun k_ hk => ⟨hk.2, hk.1.2⟩))).1 k_ hk_.symm) ?aF ?aO ?aB ?aS ?aL ?_; (case aP => exact k69_mkM _ _ _ (⟨(qAL ((qA3 l0 x10_1).f4) x17_2).f0, (qAL ((qA3 l0 x10_1).f4) x17_2).f1, (qAL ((qA3 l0 x10_1).f4) x17_2).f2, (qAL ((qA3 l0 x10_1).f4) x17_2).f3, t182⟩ : S69) (Kd.qB6 (Kd.qEZ rfl (Kd.qB6 (ok' := fun k_ => ((fun k_ => k_ ≠ gb181)) k_ ∧ some k_ ≠ (u3 : Value).ownBlock) (Kd.qBZ (Kd.R_apart' (HO184.out) (Kd.S_typed HO_3.out) (by decide)) BK181.out (by decide)) (fun k_ hk => ⟨hk.2, hk.1.2⟩))) (fun _ h_ => h_))); (case aB => exact zb); (case aF => exact (fun k_ hk => Kd.freshB (g := gb181) (o := .cells #[.string ((qAL ((qA3 l0 x10_1).f4) x17_2).f0), .int .i64 ((qAL ((qA3 l0 x10_1).f4) x17_2).f1), .int .i64 ((qAL ((qA3 l0 x10_1).f4) x17_2).f2), .bool ((qAL ((qA3 l0 x10_1).f4) x17_2).f3), .slice Ao16 t182.length co16] 69 (0, 0)) (zk BK181) k_ hk)); (case aO => exact (by (with_reducible repeat refine sS ?_); exact Kd.qDI HO_3.out (fun k_ hk => ⟨hk.2, fun e_ => hk.1 e_⟩))); (case aS => exact (qAM zb)); (case aL => have := LMc11.out; omega); intro v186 w20 ho hb hg hat; rw [← Ny185.out] at ho; have HO187 := qA0.mk (ho); replace BK179 := qA0.mk (qAN (g := gb179) (o := .cells #[.string ((qA3 l0 x10_1).f0), .int .i64 ((qA3 l0 x10_1).f1), .int .i64 ((qA3 l0 x10_1).f2), .slice A178_3 ((qA3 l0 x10_1).f3).length c178_3, .slice (some ad180) ((qA3 l0 x10_1).f4).length c178_4, .slice A178_5 ((qA3 l0 x10_1).f5).length c178_5] 48 (0, 0)) (zk BK179) hg (Kd.S_ne HO_3.out BK179.out (by decide))); replace BK181 := qA0.mk (qAN (g := gb181) (o := .cells #[.string ((qAL ((qA3 l0 x10_1).f4) x17_2).f0), .int .i64 ((qAL ((qA3 l0 x10_1).f4) x17_2).f1), .int .i64 ((qAL ((qA3 l0 x10_1).f4) x17_2).f2), .bool ((qAL ((qA3 l0 x10_1).f4) x17_2).f3), .slice Ao16 t182.length co16] 69 (0, 0)) (zk BK181) hg (Kd.S_away HO_3.out (fun _ hk => hk.2))); replace HB := qA0.mk (hb); clear HO_3; clear HO184; clear ho hb hg hat))
            go_roundg k2
            case measure => have := HK1.out; have := HK2.out; omega
            case rel => exact ⟨(y185), (wrap64 (x17_2 + 1)), zs, H', ⟨by have := HK1.out; have := HK2.out; omega⟩, ⟨by (with_reducible repeat refine sS ?_); exact Kd.qDI HO187.out (fun _ hk => trivial)⟩, ⟨zk BK179⟩, ⟨zb⟩⟩
           ·rw [if_neg c11] at H
            exact absurd H (by simp)
          ·rw [if_neg c9] at H
           exact absurd H (by simp)
         ·rw [if_neg c8] at H
          exact absurd H (by simp)
        ·rw [if_neg c7] at H
         have c7b0 := decide_eq_false c7
         clear c7
         have H' := qA0.mk H
         clear H
         go_wp2
         go_roundg k2
         case measure => have := HK1.out; have := HK2.out; omega
         case rel => exact ⟨(x3_2), (wrap64 (x10_1 + 1)), zs, H', ⟨by have := HK1.out; have := HK2.out; omega⟩, ⟨by (with_reducible repeat refine sS ?_); exact HO_3.out⟩, ⟨zb⟩⟩
     ·rw [if_neg c4] at H
      exact absurd H (by simp)
    ·rw [if_neg c3] at H
     exact absurd H (by simp)
   ·rw [if_neg c2] at H
    have c2b0 := decide_eq_false c2
    clear c2
    obtain rfl := Option.some.inj H
    go_wp2
    go_ret
    exact ⟨_, zf, by (with_reducible repeat refine sS ?_); exact HO_3.out, zb⟩
def qAA.l0 : Nat → Int → List Int → Int → Int → Option (Bool)
 | 0, _, _, _, _ => none
 | k + 1, x0, x7, x8, x9 => if x9 < x8 then (if 0 ≤ x9 then (if x9 < (x7.length : Int) then (if x0 = (rd x7 x9) then (some true) else (qAA.l0 k x0 x7 x8 (wrap64 (x9 + 1)))) else (none)) else (none)) else (some (x0 == 0))
def qAA.f (k : Nat) (a0 : Int) (l1 : List Int) : Option (Bool) := qAA.l0 k a0 l1 (l1.length : Int) 0
theorem qAA.qBY : ∀ k, (∀ y0 y1 y2 y3, LeO (qAA.l0 k y0 y1 y2 y3) (qAA.l0 (k + 1) y0 y1 y2 y3))
 | 0 => fun _ _ _ _ r h => by simp [qAA.l0] at h
 | k + 1 => by
  have ih0 := qAA.qBY k
  ·intro y0 y1 y2 y3
   unfold qAA.l0
   exact zm
theorem qAA.mono : ∀ a0 a1 k, LeO (qAA.f k a0 a1) (qAA.f (k + 1) a0 a1) := by
 intro a0 a1 k
 have ih0 := qAA.qBY k
 unfold qAA.f
 exact zm
set_option maxHeartbeats 8000000 in
set_option maxRecDepth 100000 in
theorem qAA.calls (k : Nat) (a0 : Int) (A1 : Option Addr) (c1 : Nat) (l1 : List Int) (r : Bool) (w : World) (hr1 : Kd.C (Kd.int .i64) w A1 l1.length l1) (hc1 : l1.length ≤ c1) (h : qAA.f k a0 l1 = some r) :
  Calls Try.prog 70 #[.int .i64 a0, .slice A1 l1.length c1] w fun e w' => e = .returned (.bool r) ∧ qAE w w' := by
 have HR1 := qA0.mk hr1
 have HC1 := qA0.mk hc1
 clear hr1 hc1
 have H : (qAA.l0 k a0 l1 (l1.length : Int) 0) = some r := h
 clear h
 have H' := qA0.mk H
 clear H
 go_enter Try.func70, Try.ntmps70
 go_wp2
 go_loopg [9] k (fun kq v9 w' => ∃ (x9_1 : Int), v9 = .int .i64 x9_1 ∧ qA0 (qAA.l0 kq a0 l1 (l1.length : Int) x9_1 = some r) ∧ qA0 (kq ≤ k) ∧ qAE w w')
 case atStart => exact ⟨(0), zs, H', ⟨Nat.le_refl _⟩, by repeat (first | exact qAE.refl _ | apply qAE.step)⟩
 case round =>
  clear H'
  obtain ⟨x9_1, rfl, HA, HK1, ⟨m1, rfl⟩⟩ := hrel
  cases gk with
  | zero => exact absurd HA.out (by simp [qAA.l0])
  | succ k1 =>
   have H := HA.out
   clear HA
   simp only [qAA.l0] at H
   by_cases c3 : x9_1 < (l1.length : Int)
   ·rw [if_pos c3] at H
    have c3b0 := decide_eq_true c3
    clear c3
    by_cases c4 : 0 ≤ x9_1
    ·rw [if_pos c4] at H
     have c4b0 := decide_eq_true c4
     clear c4
     by_cases c5 : x9_1 < (l1.length : Int)
     ·rw [if_pos c5] at H
      have c5b0 := decide_eq_true c5
      clear c5
      by_cases c6 : a0 = (rd l1 x9_1)
      ·rw [if_pos c6] at H
       have ⟨c6b0, c6b1⟩ := ze c6
       clear c6
       obtain rfl := Option.some.inj H
       have p188 : 0 ≤ (x9_1 : Int) := zd
       have q188 : x9_1 < (l1.length : Int) := zd
       obtain ⟨ad188, e188, hx188_0⟩ := Kd.qCF HR1.out x9_1 p188 q188
       cases e188
       replace p188 := eq_true p188
       replace q188 := eq_true q188
       go_wp2
       go_ret
       exact ⟨by first | rfl | (simp; done) | (simp [*]; done), by repeat (first | exact qAE.refl _ | apply qAE.step)⟩
      ·rw [if_neg c6] at H
       have ⟨c6b0, c6b1⟩ := zn c6
       have H' := qA0.mk H
       clear H
       have p188 : 0 ≤ (x9_1 : Int) := zd
       have q188 : x9_1 < (l1.length : Int) := zd
       obtain ⟨ad188, e188, hx188_0⟩ := Kd.qCF HR1.out x9_1 p188 q188
       cases e188
       replace p188 := eq_true p188
       replace q188 := eq_true q188
       go_wp2
       go_roundg k1
       case measure => have := HK1.out; omega
       case rel => exact ⟨(wrap64 (x9_1 + 1)), zs, H', ⟨by have := HK1.out; omega⟩, by repeat (first | exact qAE.refl _ | apply qAE.step)⟩
     ·rw [if_neg c5] at H
      exact absurd H (by simp)
    ·rw [if_neg c4] at H
     exact absurd H (by simp)
   ·rw [if_neg c3] at H
    have c3b0 := decide_eq_false c3
    clear c3
    obtain rfl := Option.some.inj H
    go_wp2
    go_ret
    exact ⟨by first | rfl | (simp; done) | (simp [*]; done), by repeat (first | exact qAE.refl _ | apply qAE.step)⟩
def qCN.f (a0 : Int) (a1 : Int) : Option (Int × Bool) := if a0 = 0 then (some (a1, true)) else (if a1 = 0 then (some (a0, true)) else (if a0 = a1 then (some (a0, true)) else (some (0, false))))
set_option maxHeartbeats 8000000 in
set_option maxRecDepth 100000 in
theorem qCN.calls (a0 : Int) (a1 : Int) (r1 : Int) (r2 : Bool) (w : World) (h : qCN.f a0 a1 = some (r1, r2)) :
  Calls Try.prog 71 #[.int .i64 a0, .int .i64 a1] w fun e w' => e = .returned (.tuple #[.int .i64 r1, .bool r2]) ∧ qAE w w' := by
 have H : (if a0 = 0 then (some (a1, true)) else (if a1 = 0 then (some (a0, true)) else (if a0 = a1 then (some (a0, true)) else (some (0, false))))) = some (r1, r2) := h
 clear h
 by_cases c3 : a0 = 0
 ·rw [if_pos c3] at H
  have ⟨c3b0, c3b1⟩ := ze c3
  clear c3
  simp only [Option.some.injEq, Prod.mk.injEq] at H
  obtain ⟨rfl, rfl⟩ := H
  go_enter Try.func71, Try.ntmps71
  go_wp2
  go_ret2
  exact ⟨by first | rfl | (simp; done) | (simp [*]; done), by repeat (first | exact qAE.refl _ | apply qAE.step)⟩
 ·rw [if_neg c3] at H
  have ⟨c3b0, c3b1⟩ := zn c3
  by_cases c4 : a1 = 0
  ·rw [if_pos c4] at H
   have ⟨c4b0, c4b1⟩ := ze c4
   clear c4
   simp only [Option.some.injEq, Prod.mk.injEq] at H
   obtain ⟨rfl, rfl⟩ := H
   go_enter Try.func71, Try.ntmps71
   go_wp2
   go_ret2
   exact ⟨by first | rfl | (simp; done) | (simp [*]; done), by repeat (first | exact qAE.refl _ | apply qAE.step)⟩
  ·rw [if_neg c4] at H
   have ⟨c4b0, c4b1⟩ := zn c4
   by_cases c5 : a0 = a1
   ·rw [if_pos c5] at H
    have ⟨c5b0, c5b1⟩ := ze c5
    clear c5
    simp only [Option.some.injEq, Prod.mk.injEq] at H
    obtain ⟨rfl, rfl⟩ := H
    go_enter Try.func71, Try.ntmps71
    go_wp2
    go_ret2
    exact ⟨by first | rfl | (simp; done) | (simp [*]; done), by repeat (first | exact qAE.refl _ | apply qAE.step)⟩
   ·rw [if_neg c5] at H
    have ⟨c5b0, c5b1⟩ := zn c5
    simp only [Option.some.injEq, Prod.mk.injEq] at H
    obtain ⟨rfl, rfl⟩ := H
    go_enter Try.func71, Try.ntmps71
    go_wp2
    go_ret2
    exact ⟨by first | rfl | (simp; done) | (simp [*]; done), by repeat (first | exact qAE.refl _ | apply qAE.step)⟩
mutual
def qAW.j0 : Nat → Int → Int → Int → Bool → Option (Int × Bool)
 | 0, _, _, _, _ => none
 | k + 1, x0, x1, x2, x8 => if x8 = true then (some (0, false)) else (if x1 = 0 then (qAW.j1 k x0 x1 x2 true) else (qAW.j1 k x0 x1 x2 (x2 == 0)))
def qAW.j1 : Nat → Int → Int → Int → Bool → Option (Int × Bool)
 | 0, _, _, _, _ => none
 | k + 1, x0, x1, x2, x15 => if x15 = true then (if x2 = 4 then (some (0, (x0 == 11))) else (some (0, true))) else (if x1 = 4 then (qAW.j2 k x0 x1 x2 (x2 == 3)) else (qAW.j2 k x0 x1 x2 false))
def qAW.j2 : Nat → Int → Int → Int → Bool → Option (Int × Bool)
 | 0, _, _, _, _ => none
 | k + 1, x0, x1, x2, x28 => if x28 = true then (some (4, true)) else (if x1 = 4 then (if x2 = 4 then (some (3, (x0 == 11))) else (some (x1, (x1 == x2)))) else (some (x1, (x1 == x2))))
end
def qAW.f (k : Nat) (a0 : Int) (a1 : Int) (a2 : Int) : Option (Int × Bool) := if a1 = 1 then (qAW.j0 k a0 a1 a2 true) else (qAW.j0 k a0 a1 a2 (a2 == 1))
theorem qAW.qBY : ∀ k, (∀ y0 y1 y2 y3, LeO (qAW.j0 k y0 y1 y2 y3) (qAW.j0 (k + 1) y0 y1 y2 y3)) ∧ (∀ y0 y1 y2 y3, LeO (qAW.j1 k y0 y1 y2 y3) (qAW.j1 (k + 1) y0 y1 y2 y3)) ∧ (∀ y0 y1 y2 y3, LeO (qAW.j2 k y0 y1 y2 y3) (qAW.j2 (k + 1) y0 y1 y2 y3))
 | 0 => ⟨fun _ _ _ _ r h => by simp [qAW.j0] at h, fun _ _ _ _ r h => by simp [qAW.j1] at h, fun _ _ _ _ r h => by simp [qAW.j2] at h⟩
 | k + 1 => by
  obtain ⟨ih0, ih1, ih2⟩ := qAW.qBY k
  refine ⟨?_, ?_, ?_⟩
  ·intro y0 y1 y2 y3
   unfold qAW.j0
   exact zm
  ·intro y0 y1 y2 y3
   unfold qAW.j1
   exact zm
  ·intro y0 y1 y2 y3
   unfold qAW.j2
   exact zm
theorem qAW.mono : ∀ a0 a1 a2 k, LeO (qAW.f k a0 a1 a2) (qAW.f (k + 1) a0 a1 a2) := by
 intro a0 a1 a2 k
 obtain ⟨ih0, ih1, ih2⟩ := qAW.qBY k
 unfold qAW.f
 exact zm
set_option maxHeartbeats 8000000 in
set_option maxRecDepth 100000 in
theorem qAW.calls (k : Nat) (a0 : Int) (a1 : Int) (a2 : Int) (r1 : Int) (r2 : Bool) (w : World) (h : qAW.f k a0 a1 a2 = some (r1, r2)) :
  Calls Try.prog 72 #[.int .i64 a0, .int .i64 a1, .int .i64 a2] w fun e w' => e = .returned (.tuple #[.int .i64 r1, .bool r2]) ∧ qAE w w' := by
 have H : (if a1 = 1 then (qAW.j0 k a0 a1 a2 true) else (qAW.j0 k a0 a1 a2 (a2 == 1))) = some (r1, r2) := h
 clear h
 have HC4 := qA0.mk H
 clear H
 go_enter Try.func72, Try.ntmps72
 go_upto_region 1 with (fail)
 go_cut [8] (fun v8 wc => ∃ (kq : Nat) (x8_3 : Bool), v8 = .bool x8_3 ∧ qA0 (qAW.j0 kq a0 a1 a2 x8_3 = some (r1, r2)) ∧ qA0 (kq ≤ k) ∧ qAE w wc)
 case first =>
  have H := HC4.out
  clear HC4
  by_cases c5 : a1 = 1
  ·rw [if_pos c5] at H
   have ⟨c5b0, c5b1⟩ := ze c5
   clear c5
   (first | rw [c5b0] | (simp only [qCE, qCJ]; rw [c5b0]) | skip)
   have H' := qA0.mk H
   clear H
   go_wp2
   go_meet
   case rel => exact ⟨_, (true), zs, H', ⟨by first | omega | exact Nat.le_refl _⟩, by repeat (first | exact qAE.refl _ | apply qAE.step)⟩
  ·rw [if_neg c5] at H
   have ⟨c5b0, c5b1⟩ := zn c5
   (first | rw [c5b0] | (simp only [qCE, qCJ]; rw [c5b0]) | skip)
   have H' := qA0.mk H
   clear H
   go_wp2
   go_meet
   case rel => exact ⟨_, ((a2 == 1)), zs, H', ⟨by first | omega | exact Nat.le_refl _⟩, by repeat (first | exact qAE.refl _ | apply qAE.step)⟩
 case rest =>
  clear HC4
  obtain ⟨kq, x8_3, rfl, HA, HJ3, ⟨mc3, rfl⟩⟩ := hcut
  cases kq with
  | zero => exact absurd HA.out (by simp [qAW.j0])
  | succ kj3 =>
   have H := HA.out
   clear HA
   simp only [qAW.j0] at H
   by_cases c6 : x8_3 = true
   ·subst c6
    rw [if_pos rfl] at H
    simp only [Option.some.injEq, Prod.mk.injEq] at H
    obtain ⟨rfl, rfl⟩ := H
    go_wp2
    go_ret2
    exact ⟨by first | rfl | (simp; done) | (simp [*]; done), by repeat (first | exact qAE.refl _ | apply qAE.step)⟩
   ·replace c6 := Bool.eq_false_iff.mpr c6
    subst c6
    rw [if_neg (show ¬ (false = true) by decide)] at H
    have HC7 := qA0.mk H
    clear H
    go_upto_region 3 with (fail)
    go_cut [15] (fun v15 wc => ∃ (kq : Nat) (x15_6 : Bool), v15 = .bool x15_6 ∧ qA0 (qAW.j1 kq a0 a1 a2 x15_6 = some (r1, r2)) ∧ qA0 (kq ≤ kj3) ∧ qAE w wc)
    case first =>
     have H := HC7.out
     clear HC7
     by_cases c8 : a1 = 0
     ·rw [if_pos c8] at H
      have ⟨c8b0, c8b1⟩ := ze c8
      clear c8
      (first | rw [c8b0] | (simp only [qCE, qCJ]; rw [c8b0]) | skip)
      have H' := qA0.mk H
      clear H
      go_wp2
      go_meet
      case rel => exact ⟨_, (true), zs, H', ⟨by have := HJ3.out; first | omega | exact Nat.le_refl _⟩, by repeat (first | exact qAE.refl _ | apply qAE.step)⟩
     ·rw [if_neg c8] at H
      have ⟨c8b0, c8b1⟩ := zn c8
      (first | rw [c8b0] | (simp only [qCE, qCJ]; rw [c8b0]) | skip)
      have H' := qA0.mk H
      clear H
      go_wp2
      go_meet
      case rel => exact ⟨_, ((a2 == 0)), zs, H', ⟨by have := HJ3.out; first | omega | exact Nat.le_refl _⟩, by repeat (first | exact qAE.refl _ | apply qAE.step)⟩
    case rest =>
     clear HC7
     obtain ⟨kq, x15_6, rfl, HA, HJ6, ⟨mc6, rfl⟩⟩ := hcut
     cases kq with
     | zero => exact absurd HA.out (by simp [qAW.j1])
     | succ kj6 =>
      have H := HA.out
      clear HA
      simp only [qAW.j1] at H
      by_cases c9 : x15_6 = true
      ·subst c9
       rw [if_pos rfl] at H
       by_cases c10 : a2 = 4
       ·rw [if_pos c10] at H
        have ⟨c10b0, c10b1⟩ := ze c10
        clear c10
        simp only [Option.some.injEq, Prod.mk.injEq] at H
        obtain ⟨rfl, rfl⟩ := H
        go_wp2
        go_ret2
        exact ⟨by first | rfl | (simp; done) | (simp [*]; done), by repeat (first | exact qAE.refl _ | apply qAE.step)⟩
       ·rw [if_neg c10] at H
        have ⟨c10b0, c10b1⟩ := zn c10
        simp only [Option.some.injEq, Prod.mk.injEq] at H
        obtain ⟨rfl, rfl⟩ := H
        go_wp2
        go_ret2
        exact ⟨by first | rfl | (simp; done) | (simp [*]; done), by repeat (first | exact qAE.refl _ | apply qAE.step)⟩
      ·replace c9 := Bool.eq_false_iff.mpr c9
       subst c9
       rw [if_neg (show ¬ (false = true) by decide)] at H
       have HC11 := qA0.mk H
       clear H
       go_upto_region 5 with (fail)
       go_cut [28] (fun v28 wc => ∃ (kq : Nat) (x28_10 : Bool), v28 = .bool x28_10 ∧ qA0 (qAW.j2 kq a0 a1 a2 x28_10 = some (r1, r2)) ∧ qA0 (kq ≤ kj6) ∧ qAE w wc)
       case first =>
        have H := HC11.out
        clear HC11
        by_cases c12 : a1 = 4
        ·rw [if_pos c12] at H
         have ⟨c12b0, c12b1⟩ := ze c12
         clear c12
         (first | rw [c12b0] | (simp only [qCE, qCJ]; rw [c12b0]) | skip)
         have H' := qA0.mk H
         clear H
         go_wp2
         go_meet
         case rel => exact ⟨_, ((a2 == 3)), zs, H', ⟨by have := HJ3.out; have := HJ6.out; first | omega | exact Nat.le_refl _⟩, by repeat (first | exact qAE.refl _ | apply qAE.step)⟩
        ·rw [if_neg c12] at H
         have ⟨c12b0, c12b1⟩ := zn c12
         (first | rw [c12b0] | (simp only [qCE, qCJ]; rw [c12b0]) | skip)
         have H' := qA0.mk H
         clear H
         go_wp2
         go_meet
         case rel => exact ⟨_, (false), zs, H', ⟨by have := HJ3.out; have := HJ6.out; first | omega | exact Nat.le_refl _⟩, by repeat (first | exact qAE.refl _ | apply qAE.step)⟩
       case rest =>
        clear HC11
        obtain ⟨kq, x28_10, rfl, HA, HJ10, ⟨mc10, rfl⟩⟩ := hcut
        cases kq with
        | zero => exact absurd HA.out (by simp [qAW.j2])
        | succ kj10 =>
         have H := HA.out
         clear HA
         simp only [qAW.j2] at H
         by_cases c13 : x28_10 = true
         ·subst c13
          rw [if_pos rfl] at H
          simp only [Option.some.injEq, Prod.mk.injEq] at H
          obtain ⟨rfl, rfl⟩ := H
          go_wp2
          go_ret2
          exact ⟨by first | rfl | (simp; done) | (simp [*]; done), by repeat (first | exact qAE.refl _ | apply qAE.step)⟩
         ·replace c13 := Bool.eq_false_iff.mpr c13
          subst c13
          rw [if_neg (show ¬ (false = true) by decide)] at H
          by_cases c14 : a1 = 4
          ·rw [if_pos c14] at H
           have ⟨c14b0, c14b1⟩ := ze c14
           clear c14
           by_cases c15 : a2 = 4
           ·rw [if_pos c15] at H
            have ⟨c15b0, c15b1⟩ := ze c15
            clear c15
            simp only [Option.some.injEq, Prod.mk.injEq] at H
            obtain ⟨rfl, rfl⟩ := H
            go_wp2
            go_ret2
            exact ⟨by first | rfl | (simp; done) | (simp [*]; done), by repeat (first | exact qAE.refl _ | apply qAE.step)⟩
           ·rw [if_neg c15] at H
            have ⟨c15b0, c15b1⟩ := zn c15
            simp only [Option.some.injEq, Prod.mk.injEq] at H
            obtain ⟨rfl, rfl⟩ := H
            go_wp2
            go_ret2
            exact ⟨by first | rfl | (simp; done) | (simp [*]; done), by repeat (first | exact qAE.refl _ | apply qAE.step)⟩
          ·rw [if_neg c14] at H
           have ⟨c14b0, c14b1⟩ := zn c14
           simp only [Option.some.injEq, Prod.mk.injEq] at H
           obtain ⟨rfl, rfl⟩ := H
           go_wp2
           go_ret2
           exact ⟨by first | rfl | (simp; done) | (simp [*]; done), by repeat (first | exact qAE.refl _ | apply qAE.step)⟩
end
end Go.Proofs.Ytnliaialemfcaaa.PRateFinds
end
section
namespace Go.Proofs.Ytnliaialemfcaaa.PRateFinds
noncomputable section
open Go.RowKit Go.Proofs.YtnliaialemfcaaaW.PrintWords Go.Proofs.YtnliaialemfcaaaW.PrintLast Go.Proofs.YtnliaialemfcaaaW.PrintMore
mutual
def qAK.j0 : Nat → Int → Int → Bool → Option (Int × Bool)
 | 0, _, _, _ => none
 | k + 1, x0, x1, x6 => if x6 = true then (some (0, false)) else (if x0 = 0 then (qAK.j1 k x0 x1 true) else (qAK.j1 k x0 x1 (x1 == 0)))
def qAK.j1 : Nat → Int → Int → Bool → Option (Int × Bool)
 | 0, _, _, _ => none
 | k + 1, x0, x1, x17 => if x17 = true then (some (0, true)) else (if x1 = 5 then (if x0 = 2 then (some (x0, true)) else (some (x0, (x0 == 3)))) else (some (x0, true)))
end
def qAK.f (k : Nat) (a0 : Int) (a1 : Int) : Option (Int × Bool) := (qAA.f k a0 (([2, 3, 5, 6] : List Int))).bind fun t192 => (if t192 = true then ((qAA.f k a1 (([5, 6] : List Int))).bind fun t196 => (qAK.j0 k a0 a1 (!t196))) else (qAK.j0 k a0 a1 true))
theorem qAK.qBY : ∀ k, (∀ y0 y1 y2, LeO (qAK.j0 k y0 y1 y2) (qAK.j0 (k + 1) y0 y1 y2)) ∧ (∀ y0 y1 y2, LeO (qAK.j1 k y0 y1 y2) (qAK.j1 (k + 1) y0 y1 y2))
 | 0 => ⟨fun _ _ _ r h => by simp [qAK.j0] at h, fun _ _ _ r h => by simp [qAK.j1] at h⟩
 | k + 1 => by
  obtain ⟨ih0, ih1⟩ := qAK.qBY k
  refine ⟨?_, ?_⟩
  ·intro y0 y1 y2
   unfold qAK.j0
   have im0 := @qAA.mono
   exact zm
  ·intro y0 y1 y2
   unfold qAK.j1
   have im0 := @qAA.mono
   exact zm
theorem qAK.mono : ∀ a0 a1 k, LeO (qAK.f k a0 a1) (qAK.f (k + 1) a0 a1) := by
 intro a0 a1 k
 obtain ⟨ih0, ih1⟩ := qAK.qBY k
 unfold qAK.f
 have im0 := @qAA.mono
 exact zm
set_option maxHeartbeats 8000000 in
set_option maxRecDepth 100000 in
theorem qAK.calls (k : Nat) (a0 : Int) (a1 : Int) (r1 : Int) (r2 : Bool) (w : World) (h : qAK.f k a0 a1 = some (r1, r2)) :
  Calls Try.prog 73 #[.int .i64 a0, .int .i64 a1] w fun e w' => e = .returned (.tuple #[.int .i64 r1, .bool r2]) ∧ Below w.heap.size w w' := by
 have HB := qA0.mk (Below.refl w.heap.size w)
 have H : ((qAA.f k a0 (([2, 3, 5, 6] : List Int))).bind fun t192 => (if t192 = true then ((qAA.f k a1 (([5, 6] : List Int))).bind fun t196 => (qAK.j0 k a0 a1 (!t196))) else (qAK.j0 k a0 a1 true))) = some (r1, r2) := h
 clear h
 have HC3 := qA0.mk H
 clear H
 go_enter Try.func73, Try.ntmps73
 go_upto_region 1 with (fail)
 go_cut [6] (fun v6 wc => ∃ (kq : Nat) (x6_2 : Bool), v6 = .bool x6_2 ∧ qA0 (qAK.j0 kq a0 a1 x6_2 = some (r1, r2)) ∧ qA0 (kq ≤ k) ∧ qA0 (Below w.heap.size w wc))
 case first =>
  have H := HC3.out
  clear HC3
  obtain ⟨y189, hy_⟩ : ∃ y_ : List Int, y_ = (([2, 3, 5, 6] : List Int)) := ⟨_, rfl⟩
  replace H : ((qAA.f k a0 y189).bind fun t192 => (if t192 = true then ((qAA.f k a1 (([5, 6] : List Int))).bind fun t196 => (qAK.j0 k a0 a1 (!t196))) else (qAK.j0 k a0 a1 true))) = some (r1, r2) := zr
  have Ny189 := qA0.mk hy_
  clear hy_
  replace H := Option.bind_eq_some_iff.mp H
  obtain ⟨t192, A40, H⟩ := H
  have A4 := qA0.mk A40
  clear A40
  by_cases c5 : t192 = true
  ·subst c5
   rw [if_pos rfl] at H
   obtain ⟨y193, hy_⟩ : ∃ y_ : List Int, y_ = (([5, 6] : List Int)) := ⟨_, rfl⟩
   replace H : ((qAA.f k a1 y193).bind fun t196 => (qAK.j0 k a0 a1 (!t196))) = some (r1, r2) := zr
   have Ny193 := qA0.mk hy_
   clear hy_
   replace H := Option.bind_eq_some_iff.mp H
   obtain ⟨t196, A60, H⟩ := H
   have A6 := qA0.mk A60
   clear A60
   have H' := qA0.mk H
   clear H
   go_wp2_with (first | ((with_reducible refine qAC (N := 8) rfl ?_); (try (refine qC5 (by rfl) ?_; dsimp only)); refine Kd.qF5 (Kd.int .i64) _ 3 ?hg (N := 8) ?hd (xs := ([2, 3, 5, 6] : List Int)) (inner := [.int .i64 2, .int .i64 3, .int .i64 5, .int .i64 6]) (ok := fun _ => True) (okp := fun _ => True) ?hr ?hp (fun _ hk => hk) trivial (Below.refl _ _) (Nat.le_refl _) (by simp) ?_; (case hd => rfl); (case hg => rfl); (case hr => first | (go_simp; done) | (go_simp; rfl)); (case hp => exact (Reps.one (show Kd.M (Kd.int .i64) _ _ _ 2 [.int .i64 2] from rfl) (Reps.one (show Kd.M (Kd.int .i64) _ _ _ 3 [.int .i64 3] from rfl) (Reps.one (show Kd.M (Kd.int .i64) _ _ _ 5 [.int .i64 5] from rfl) (Reps.one (show Kd.M (Kd.int .i64) _ _ _ 6 [.int .i64 6] from rfl) (Reps.none _ _)))))); intro v190 w7 ho8 hb hg_ hnew_; clear hg_ hnew_; (first | rw [← Ny189.out] at ho8 | (simp only [Int.reduceToNat] at ho8; rw [← Ny189.out] at ho8)); have HO191 := qA0.mk (Kd.qC9 ho8 (qAM zb)); replace HB := qA0.mk (qA1 zb hb); clear hb ho8; obtain ⟨Ao9, co9, eo9⟩ := Kd.qBW HO191.out; subst eo9) | ((with_reducible refine qA9 (f := 70) rfl ?_); refine qC2 (some 9) Try.func70 #[.int .i64 a0, .slice Ao9 y189.length co9] ?_; (with_reducible refine (qAA.calls k a0 _ _ y189 true _ ?side1 ?side2 A4.out).mono ?_); (case side1 => repeat (first | exact (Kd.qAU HO191.out).2.2 | refine sC ?_)); (case side2 => exact (Kd.qAU HO191.out).2.1); rintro e w' ⟨rfl, ⟨nd, rfl⟩⟩; refine ⟨_, rfl, ?_⟩) | ((with_reducible refine qAC (N := 13) rfl ?_); (try (refine qC5 (by rfl) ?_; dsimp only)); refine Kd.qF5 (Kd.int .i64) _ 3 ?hg (N := 13) ?hd (xs := ([5, 6] : List Int)) (inner := [.int .i64 5, .int .i64 6]) (ok := fun _ => True) (okp := fun _ => True) ?hr ?hp (fun _ hk => hk) trivial (Below.refl _ _) (Nat.le_refl _) (by simp) ?_; (case hd => rfl); (case hg => rfl); (case hr => first | (go_simp; done) | (go_simp; rfl)); (case hp => exact (Reps.one (show Kd.M (Kd.int .i64) _ _ _ 5 [.int .i64 5] from rfl) (Reps.one (show Kd.M (Kd.int .i64) _ _ _ 6 [.int .i64 6] from rfl) (Reps.none _ _)))); intro v194 w10 ho11 hb hg_ hnew_; clear hg_ hnew_; (first | rw [← Ny193.out] at ho11 | (simp only [Int.reduceToNat] at ho11; rw [← Ny193.out] at ho11)); have HO195 := qA0.mk (Kd.qC9 (Kd.R_new' ho11 (Kd.R_lt (by (with_reducible repeat (first | apply Kd.qDG | apply Kd.qDF | apply Kd.qDJ)); exact HO191.out))) (qAM zb)); replace HO191 := qA0.mk (Kd.qFA (by (with_reducible repeat (first | apply Kd.qDG | apply Kd.qDF | apply Kd.qDJ)); exact HO191.out) (Kd.qEO ho11) hb); replace HB := qA0.mk (qA1 zb hb); clear hb ho11; obtain ⟨Ao12, co12, eo12⟩ := Kd.qBW HO195.out; subst eo12) | (go_at_call 70; (with_reducible refine (qAA.calls k a1 _ _ y193 t196 _ ?side1 ?side2 A6.out).mono ?_); (case side1 => repeat (first | exact (Kd.qAU HO195.out).2.2 | refine sC ?_)); (case side2 => exact (Kd.qAU HO195.out).2.1); rintro e w' ⟨rfl, ⟨nd, rfl⟩⟩))
   go_meet
   case rel => exact ⟨_, (!t196), zs, H', ⟨by first | omega | exact Nat.le_refl _⟩, ⟨zb⟩⟩
  ·replace c5 := Bool.eq_false_iff.mpr c5
   subst c5
   rw [if_neg (show ¬ (false = true) by decide)] at H
   have H' := qA0.mk H
   clear H
   go_wp2_with (first | ((with_reducible refine qAC (N := 8) rfl ?_); (try (refine qC5 (by rfl) ?_; dsimp only)); refine Kd.qF5 (Kd.int .i64) _ 3 ?hg (N := 8) ?hd (xs := ([2, 3, 5, 6] : List Int)) (inner := [.int .i64 2, .int .i64 3, .int .i64 5, .int .i64 6]) (ok := fun _ => True) (okp := fun _ => True) ?hr ?hp (fun _ hk => hk) trivial (Below.refl _ _) (Nat.le_refl _) (by simp) ?_; (case hd => rfl); (case hg => rfl); (case hr => first | (go_simp; done) | (go_simp; rfl)); (case hp => exact (Reps.one (show Kd.M (Kd.int .i64) _ _ _ 2 [.int .i64 2] from rfl) (Reps.one (show Kd.M (Kd.int .i64) _ _ _ 3 [.int .i64 3] from rfl) (Reps.one (show Kd.M (Kd.int .i64) _ _ _ 5 [.int .i64 5] from rfl) (Reps.one (show Kd.M (Kd.int .i64) _ _ _ 6 [.int .i64 6] from rfl) (Reps.none _ _)))))); intro v190 w13 ho14 hb hg_ hnew_; clear hg_ hnew_; (first | rw [← Ny189.out] at ho14 | (simp only [Int.reduceToNat] at ho14; rw [← Ny189.out] at ho14)); have HO191 := qA0.mk (Kd.qC9 ho14 (qAM zb)); replace HB := qA0.mk (qA1 zb hb); clear hb ho14; obtain ⟨Ao15, co15, eo15⟩ := Kd.qBW HO191.out; subst eo15) | ((with_reducible refine qA9 (f := 70) rfl ?_); refine qC2 (some 9) Try.func70 #[.int .i64 a0, .slice Ao15 y189.length co15] ?_; (with_reducible refine (qAA.calls k a0 _ _ y189 false _ ?side1 ?side2 A4.out).mono ?_); (case side1 => repeat (first | exact (Kd.qAU HO191.out).2.2 | refine sC ?_)); (case side2 => exact (Kd.qAU HO191.out).2.1); rintro e w' ⟨rfl, ⟨nd, rfl⟩⟩; refine ⟨_, rfl, ?_⟩))
   go_meet
   case rel => exact ⟨_, (true), zs, H', ⟨by first | omega | exact Nat.le_refl _⟩, ⟨zb⟩⟩
 case rest =>
  clear HC3
  obtain ⟨kq, x6_2, rfl, HA, HJ2, HB⟩ := hcut
  cases kq with
  | zero => exact absurd HA.out (by simp [qAK.j0])
  | succ kj2 =>
   have H := HA.out
   clear HA
   simp only [qAK.j0] at H
   by_cases c16 : x6_2 = true
   ·subst c16
    rw [if_pos rfl] at H
    simp only [Option.some.injEq, Prod.mk.injEq] at H
    obtain ⟨rfl, rfl⟩ := H
    go_wp2
    go_ret2
    exact ⟨zf, zb⟩
   ·replace c16 := Bool.eq_false_iff.mpr c16
    subst c16
    rw [if_neg (show ¬ (false = true) by decide)] at H
    have HC17 := qA0.mk H
    clear H
    go_upto_region 3 with (fail)
    go_cut [17] (fun v17 wc => ∃ (kq : Nat) (x17_16 : Bool), v17 = .bool x17_16 ∧ qA0 (qAK.j1 kq a0 a1 x17_16 = some (r1, r2)) ∧ qA0 (kq ≤ kj2) ∧ qA0 (Below w.heap.size w wc))
    case first =>
     have H := HC17.out
     clear HC17
     by_cases c18 : a0 = 0
     ·rw [if_pos c18] at H
      have ⟨c18b0, c18b1⟩ := ze c18
      clear c18
      (first | rw [c18b0] | (simp only [qCE, qCJ]; rw [c18b0]) | skip)
      have H' := qA0.mk H
      clear H
      go_wp2
      go_meet
      case rel => exact ⟨_, (true), zs, H', ⟨by have := HJ2.out; first | omega | exact Nat.le_refl _⟩, ⟨zb⟩⟩
     ·rw [if_neg c18] at H
      have ⟨c18b0, c18b1⟩ := zn c18
      (first | rw [c18b0] | (simp only [qCE, qCJ]; rw [c18b0]) | skip)
      have H' := qA0.mk H
      clear H
      go_wp2
      go_meet
      case rel => exact ⟨_, ((a1 == 0)), zs, H', ⟨by have := HJ2.out; first | omega | exact Nat.le_refl _⟩, ⟨zb⟩⟩
    case rest =>
     clear HC17
     obtain ⟨kq, x17_16, rfl, HA, HJ16, HB⟩ := hcut
     cases kq with
     | zero => exact absurd HA.out (by simp [qAK.j1])
     | succ kj16 =>
      have H := HA.out
      clear HA
      simp only [qAK.j1] at H
      by_cases c19 : x17_16 = true
      ·subst c19
       rw [if_pos rfl] at H
       simp only [Option.some.injEq, Prod.mk.injEq] at H
       obtain ⟨rfl, rfl⟩ := H
       go_wp2
       go_ret2
       exact ⟨zf, zb⟩
      ·replace c19 := Bool.eq_false_iff.mpr c19
       subst c19
       rw [if_neg (show ¬ (false = true) by decide)] at H
       by_cases c20 : a1 = 5
       ·rw [if_pos c20] at H
        have ⟨c20b0, c20b1⟩ := ze c20
        clear c20
        by_cases c21 : a0 = 2
        ·rw [if_pos c21] at H
         have ⟨c21b0, c21b1⟩ := ze c21
         clear c21
         simp only [Option.some.injEq, Prod.mk.injEq] at H
         obtain ⟨rfl, rfl⟩ := H
         go_wp2
         go_ret2
         exact ⟨zf, zb⟩
        ·rw [if_neg c21] at H
         have ⟨c21b0, c21b1⟩ := zn c21
         simp only [Option.some.injEq, Prod.mk.injEq] at H
         obtain ⟨rfl, rfl⟩ := H
         go_wp2
         go_ret2
         exact ⟨zf, zb⟩
       ·rw [if_neg c20] at H
        have ⟨c20b0, c20b1⟩ := zn c20
        simp only [Option.some.injEq, Prod.mk.injEq] at H
        obtain ⟨rfl, rfl⟩ := H
        go_wp2
        go_ret2
        exact ⟨zf, zb⟩
end
end Go.Proofs.Ytnliaialemfcaaa.PRateFinds
end
section
namespace Go.Proofs.Ytnliaialemfcaaa.PRateFinds
noncomputable section
open Go.RowKit Go.Proofs.YtnliaialemfcaaaW.PrintWords Go.Proofs.YtnliaialemfcaaaW.PrintLast Go.Proofs.YtnliaialemfcaaaW.PrintMore
mutual
def qA7.j0 : Nat → List Int → Int → Bool → Int → List Int → Int → Int → ByteArray → ByteArray → Int → Int → Bool → List (S76) → Option (Int × Bool)
 | 0, _, _, _, _, _, _, _, _, _, _, _, _, _ => none
 | k + 1, x1, x17, x29, x198000, x198001, x198002, x198003, x198004, x199000, x199001, x199002, x199003, x199004 => if x29 = true then (if 0 < (x1.length : Int) then ((qAA.f k (rd x1 0) (([1] : List Int))).bind fun t208 => (if t208 = true then (if 1 < (x1.length : Int) then ((qAA.f k (rd x1 1) (([1] : List Int))).bind fun t213 => (some (1, t213))) else (none)) else (some (1, false)))) else (none)) else (if x17 = 9 then (if 0 < (x1.length : Int) then (if 1 < (x1.length : Int) then ((qCN.f (rd x1 0) (rd x1 1)).bind fun bt216 => (some (1, bt216.2))) else (none)) else (none)) else (if x17 = 7 then (qA7.j1 k x1 x17 (x17 == 7) x198000 x198001 x198002 x198003 x198004 x199000 x199001 x199002 x199003 x199004) else (qA7.j1 k x1 x17 (x17 == 8) x198000 x198001 x198002 x198003 x198004 x199000 x199001 x199002 x199003 x199004)))
def qA7.j1 : Nat → List Int → Int → Bool → Int → List Int → Int → Int → ByteArray → ByteArray → Int → Int → Bool → List (S76) → Option (Int × Bool)
 | 0, _, _, _, _, _, _, _, _, _, _, _, _, _ => none
 | k + 1, x1, x17, x57, x198000, x198001, x198002, x198003, x198004, x199000, x199001, x199002, x199003, x199004 => if x57 = true then (if 0 < (x1.length : Int) then (if 1 < (x1.length : Int) then ((qCN.f (rd x1 0) (rd x1 1)).bind fun bt220 => (if bt220.2 = true then (some (1, (bt220.1 != 1))) else (some (1, false)))) else (none)) else (none)) else (if x17 = 13 then (qA7.j2 k x1 x17 (x17 == 13) x198000 x198001 x198002 x198003 x198004 x199000 x199001 x199002 x199003 x199004) else (qA7.j2 k x1 x17 (x17 == 14) x198000 x198001 x198002 x198003 x198004 x199000 x199001 x199002 x199003 x199004))
def qA7.j2 : Nat → List Int → Int → Bool → Int → List Int → Int → Int → ByteArray → ByteArray → Int → Int → Bool → List (S76) → Option (Int × Bool)
 | 0, _, _, _, _, _, _, _, _, _, _, _, _, _ => none
 | k + 1, x1, x17, x75, x198000, x198001, x198002, x198003, x198004, x199000, x199001, x199002, x199003, x199004 => if x75 = true then (if 0 < (x1.length : Int) then (if 1 < (x1.length : Int) then ((qCN.f (rd x1 0) (rd x1 1)).bind fun bt224 => (if bt224.2 = true then (some (bt224.1, (bt224.1 != 1))) else (some (bt224.1, false)))) else (none)) else (none)) else (if x17 = 10 then (qA7.j3 k x1 x17 (x17 == 10) x198000 x198001 x198002 x198003 x198004 x199000 x199001 x199002 x199003 x199004) else (qA7.j3 k x1 x17 (x17 == 11) x198000 x198001 x198002 x198003 x198004 x199000 x199001 x199002 x199003 x199004))
def qA7.j3 : Nat → List Int → Int → Bool → Int → List Int → Int → Int → ByteArray → ByteArray → Int → Int → Bool → List (S76) → Option (Int × Bool)
 | 0, _, _, _, _, _, _, _, _, _, _, _, _, _ => none
 | k + 1, x1, x17, x94, x198000, x198001, x198002, x198003, x198004, x199000, x199001, x199002, x199003, x199004 => if x94 = true then (if 0 < (x1.length : Int) then (if 1 < (x1.length : Int) then ((qAW.f k x198000 (rd x1 0) (rd x1 1)).bind fun bt228 => (some (bt228.1, bt228.2))) else (none)) else (none)) else (if x17 = 12 then (if 0 < (x1.length : Int) then (if 1 < (x1.length : Int) then ((qAK.f k (rd x1 0) (rd x1 1)).bind fun bt232 => (some (bt232.1, bt232.2))) else (none)) else (none)) else (if x17 = 15 then (if 1 < (x1.length : Int) then (if 2 < (x1.length : Int) then ((qCN.f (rd x1 1) (rd x1 2)).bind fun bt236 => (if bt236.2 = true then (if 0 < (x1.length : Int) then ((qAA.f k (rd x1 0) (([1] : List Int))).bind fun t242 => (some (bt236.1, t242))) else (none)) else (some (bt236.1, false)))) else (none)) else (none)) else (if x17 = 16 then (if 0 < (x1.length : Int) then ((qAA.f k (rd x1 0) (([x199001] : List Int))).bind fun t247 => (some (x199002, t247))) else (none)) else (if x17 = 17 then (if 0 < (x1.length : Int) then ((qAA.f k (rd x1 0) (([2] : List Int))).bind fun t252 => (some (2, t252))) else (none)) else (if 0 < (x1.length : Int) then ((qAA.f k (rd x1 0) (([4] : List Int))).bind fun t257 => (if t257 = true then (if 1 < (x1.length : Int) then ((qAA.f k (rd x1 1) (([4] : List Int))).bind fun t262 => (some (5, t262))) else (none)) else (some (5, false)))) else (none))))))
end
def qA7.f (k : Nat) (a0_0 : Int) (l0_1 : List Int) (a0_2 : Int) (a0_3 : Int) (a0_4 : ByteArray) (l1 : List Int) (a2_0 : ByteArray) (a2_1 : Int) (a2_2 : Int) (a2_3 : Bool) (l2_4 : List (S76)) : Option (Int × Bool) := if a0_0 = 0 then (some (a0_2, true)) else (if a0_0 = 4 then (if 0 < (l1.length : Int) then ((qAA.f k (rd l1 0) (([1] : List Int))).bind fun t203 => (some (1, t203))) else (none)) else (if a0_0 = 5 then (qA7.j0 k l1 a0_0 (a0_0 == 5) a0_0 l0_1 a0_2 a0_3 a0_4 a2_0 a2_1 a2_2 a2_3 l2_4) else (qA7.j0 k l1 a0_0 (a0_0 == 6) a0_0 l0_1 a0_2 a0_3 a0_4 a2_0 a2_1 a2_2 a2_3 l2_4)))
theorem qA7.qBY : ∀ k, (∀ y0 y1 y2 y3 y4 y5 y6 y7 y8 y9 y10 y11 y12, LeO (qA7.j0 k y0 y1 y2 y3 y4 y5 y6 y7 y8 y9 y10 y11 y12) (qA7.j0 (k + 1) y0 y1 y2 y3 y4 y5 y6 y7 y8 y9 y10 y11 y12)) ∧ (∀ y0 y1 y2 y3 y4 y5 y6 y7 y8 y9 y10 y11 y12, LeO (qA7.j1 k y0 y1 y2 y3 y4 y5 y6 y7 y8 y9 y10 y11 y12) (qA7.j1 (k + 1) y0 y1 y2 y3 y4 y5 y6 y7 y8 y9 y10 y11 y12)) ∧ (∀ y0 y1 y2 y3 y4 y5 y6 y7 y8 y9 y10 y11 y12, LeO (qA7.j2 k y0 y1 y2 y3 y4 y5 y6 y7 y8 y9 y10 y11 y12) (qA7.j2 (k + 1) y0 y1 y2 y3 y4 y5 y6 y7 y8 y9 y10 y11 y12)) ∧ (∀ y0 y1 y2 y3 y4 y5 y6 y7 y8 y9 y10 y11 y12, LeO (qA7.j3 k y0 y1 y2 y3 y4 y5 y6 y7 y8 y9 y10 y11 y12) (qA7.j3 (k + 1) y0 y1 y2 y3 y4 y5 y6 y7 y8 y9 y10 y11 y12))
 | 0 => ⟨fun _ _ _ _ _ _ _ _ _ _ _ _ _ r h => by simp [qA7.j0] at h, fun _ _ _ _ _ _ _ _ _ _ _ _ _ r h => by simp [qA7.j1] at h, fun _ _ _ _ _ _ _ _ _ _ _ _ _ r h => by simp [qA7.j2] at h, fun _ _ _ _ _ _ _ _ _ _ _ _ _ r h => by simp [qA7.j3] at h⟩
 | k + 1 => by
  obtain ⟨ih0, ih1, ih2, ih3⟩ := qA7.qBY k
  refine ⟨?_, ?_, ?_, ?_⟩
  ·intro y0 y1 y2 y3 y4 y5 y6 y7 y8 y9 y10 y11 y12
   unfold qA7.j0
   have im0 := @qAA.mono
   have im1 := @qAK.mono
   have im2 := @qAW.mono
   exact zm
  ·intro y0 y1 y2 y3 y4 y5 y6 y7 y8 y9 y10 y11 y12
   unfold qA7.j1
   have im0 := @qAA.mono
   have im1 := @qAK.mono
   have im2 := @qAW.mono
   exact zm
  ·intro y0 y1 y2 y3 y4 y5 y6 y7 y8 y9 y10 y11 y12
   unfold qA7.j2
   have im0 := @qAA.mono
   have im1 := @qAK.mono
   have im2 := @qAW.mono
   exact zm
  ·intro y0 y1 y2 y3 y4 y5 y6 y7 y8 y9 y10 y11 y12
   unfold qA7.j3
   have im0 := @qAA.mono
   have im1 := @qAK.mono
   have im2 := @qAW.mono
   exact zm
theorem qA7.mono : ∀ a0 a1 a2 a3 a4 a5 a6 a7 a8 a9 a10 k, LeO (qA7.f k a0 a1 a2 a3 a4 a5 a6 a7 a8 a9 a10) (qA7.f (k + 1) a0 a1 a2 a3 a4 a5 a6 a7 a8 a9 a10) := by
 intro a0 a1 a2 a3 a4 a5 a6 a7 a8 a9 a10 k
 obtain ⟨ih0, ih1, ih2, ih3⟩ := qA7.qBY k
 unfold qA7.f
 have im0 := @qAA.mono
 have im1 := @qAK.mono
 have im2 := @qAW.mono
 exact zm
def qA7.T10 : Bool × List (List Nat × List Nat) := (true, [([], []), ([0], [0]), ([1], [1]), ([], []), ([3], [3]), ([4], [4]), ([2, 5], [2, 5]), ([6], [6]), ([7], [7]), ([7], [7]), ([8, 6, 0, 1, 2, 3, 4, 5, 6, 7, 8], [8]), ([9, 10, 0, 1, 2, 3, 4, 5, 6, 7, 8, 9, 10], [9])])
def qA7.B10 : List Nat := [0, 1, 3, 0, 8, 24, 63, 127, 255, 255, 511, 2047]
theorem qA7.tab10 : rtab .any (opsOf Try.f56 10) = qA7.T10 := by kernel_rfl
theorem qA7.bits10 : qE6 qA7.T10.2 qA7.B10 = true := by kernel_rfl
def qA7.T14 : Bool × List (List Nat × List Nat) := (true, [([], []), ([0], [0]), ([1], [1]), ([], []), ([3], [3]), ([4], [4]), ([2, 5], [2, 5]), ([6], [6]), ([7], [7]), ([7], [7]), ([8, 6, 0, 1, 2, 3, 4, 5, 6, 7, 8], [8]), ([9, 10, 0, 1, 2, 3, 4, 5, 6, 7, 8, 9, 10], [9])])
def qA7.B14 : List Nat := [0, 1, 3, 0, 8, 24, 63, 127, 255, 255, 511, 2047]
theorem qA7.tab14 : rtab .any (opsOf Try.f56 14) = qA7.T14 := by kernel_rfl
theorem qA7.bits14 : qE6 qA7.T14.2 qA7.B14 = true := by kernel_rfl
def qA7.T18 : Bool × List (List Nat × List Nat) := (true, [([], []), ([0], [0]), ([1], [1]), ([], []), ([3], [3]), ([4], [4]), ([2, 5], [2, 5]), ([6], [6]), ([7], [7]), ([7], [7]), ([8, 6, 0, 1, 2, 3, 4, 5, 6, 7, 8], [8]), ([9, 10, 0, 1, 2, 3, 4, 5, 6, 7, 8, 9, 10], [9])])
def qA7.B18 : List Nat := [0, 1, 3, 0, 8, 24, 63, 127, 255, 255, 511, 2047]
theorem qA7.tab18 : rtab .any (opsOf Try.f56 18) = qA7.T18 := by kernel_rfl
theorem qA7.bits18 : qE6 qA7.T18.2 qA7.B18 = true := by kernel_rfl
def qA7.T22 : Bool × List (List Nat × List Nat) := (true, [([], []), ([0], [0]), ([], []), ([2], [2]), ([3], [3]), ([], []), ([5], [5]), ([6], [6]), ([1, 4, 7], [1, 4, 7]), ([8], [8]), ([8], [8]), ([9, 8, 0, 1, 2, 3, 4, 5, 6, 7, 8, 9, 10], [9]), ([10, 11, 0, 1, 2, 3, 4, 5, 6, 7, 8, 9, 10, 11], [10])])
def qA7.B22 : List Nat := [0, 1, 0, 4, 12, 0, 32, 96, 255, 511, 511, 2047, 4095]
theorem qA7.tab22 : rtab .any (opsOf Try.f56 22) = qA7.T22 := by kernel_rfl
theorem qA7.bits22 : qE6 qA7.T22.2 qA7.B22 = true := by kernel_rfl
def qA7.T24 : Bool × List (List Nat × List Nat) := (true, [([], []), ([0], [0]), ([1], [1]), ([], []), ([3], [3]), ([4], [4]), ([2, 5], [2, 5]), ([6], [6]), ([6], [6]), ([7, 6, 0, 1, 2, 3, 4, 5, 6, 7, 8], [7]), ([8, 9, 0, 1, 2, 3, 4, 5, 6, 7, 8, 9], [8])])
def qA7.B24 : List Nat := [0, 1, 3, 0, 8, 24, 63, 127, 127, 511, 1023]
theorem qA7.tab24 : rtab .any (opsOf Try.f56 24) = qA7.T24 := by kernel_rfl
theorem qA7.bits24 : qE6 qA7.T24.2 qA7.B24 = true := by kernel_rfl
def qA7.T26 : Bool × List (List Nat × List Nat) := (true, [([], []), ([0], [0]), ([1], [1]), ([], []), ([3], [3]), ([4], [4]), ([2, 5], [2, 5]), ([6], [6]), ([7], [7]), ([7], [7]), ([8, 6, 0, 1, 2, 3, 4, 5, 6, 7, 8], [8]), ([9, 10, 0, 1, 2, 3, 4, 5, 6, 7, 8, 9, 10], [9])])
def qA7.B26 : List Nat := [0, 1, 3, 0, 8, 24, 63, 127, 255, 255, 511, 2047]
theorem qA7.tab26 : rtab .any (opsOf Try.f56 26) = qA7.T26 := by kernel_rfl
theorem qA7.bits26 : qE6 qA7.T26.2 qA7.B26 = true := by kernel_rfl
def qA7.T29 : Bool × List (List Nat × List Nat) := (true, [([], []), ([0], [0]), ([], []), ([2], [2]), ([3], [3]), ([], []), ([5], [5]), ([6], [6]), ([4, 7], [4, 7]), ([1, 8, 0, 1], [1]), ([8, 9, 0, 1, 2, 3, 4, 5, 6, 7, 8, 9], [8])])
def qA7.B29 : List Nat := [0, 1, 0, 4, 12, 0, 32, 96, 252, 511, 1023]
theorem qA7.tab29 : rtab .any (opsOf Try.f56 29) = qA7.T29 := by kernel_rfl
theorem qA7.bits29 : qE6 qA7.T29.2 qA7.B29 = true := by kernel_rfl
set_option maxHeartbeats 8000000 in
set_option maxRecDepth 100000 in
theorem qA7.calls (k : Nat) (a0_0 : Int) (A0_1 : Option Addr) (c0_1 : Nat) (l0_1 : List Int) (a0_2 : Int) (a0_3 : Int) (a0_4 : ByteArray) (A1 : Option Addr) (c1 : Nat) (l1 : List Int) (a2_0 : ByteArray) (a2_1 : Int) (a2_2 : Int) (a2_3 : Bool) (A2_4 : Option Addr) (c2_4 : Nat) (l2_4 : List (S76)) (r1 : Int) (r2 : Bool) (w : World) (hr0_1 : Kd.C (Kd.int .i64) w A0_1 l0_1.length l0_1) (hc0_1 : l0_1.length ≤ c0_1) (hr1 : Kd.C (Kd.int .i64) w A1 l1.length l1) (hc1 : l1.length ≤ c1) (hr2_4 : Kd.C k76 w A2_4 l2_4.length l2_4) (hc2_4 : l2_4.length ≤ c2_4) (h : qA7.f k a0_0 l0_1 a0_2 a0_3 a0_4 l1 a2_0 a2_1 a2_2 a2_3 l2_4 = some (r1, r2)) :
  Calls Try.prog 56 #[.agg #[.int .i64 a0_0, .slice A0_1 l0_1.length c0_1, .int .i64 a0_2, .int .i64 a0_3, .string a0_4], .slice A1 l1.length c1, .agg #[.string a2_0, .int .i64 a2_1, .int .i64 a2_2, .bool a2_3, .slice A2_4 l2_4.length c2_4]] w fun e w' => e = .returned (.tuple #[.int .i64 r1, .bool r2]) ∧ Below w.heap.size w w' := by
 have hu80 := Try.underlying80
 have hu69 := Try.underlying69
 have HR0_1 := qA0.mk hr0_1
 have HC0_1 := qA0.mk hc0_1
 clear hr0_1 hc0_1
 have HR1 := qA0.mk hr1
 have HC1 := qA0.mk hc1
 clear hr1 hc1
 have HR2_4 := qA0.mk hr2_4
 have HC2_4 := qA0.mk hc2_4
 clear hr2_4 hc2_4
 have HB := qA0.mk (Below.refl w.heap.size w)
 have H : (if a0_0 = 0 then (some (a0_2, true)) else (if a0_0 = 4 then (if 0 < (l1.length : Int) then ((qAA.f k (rd l1 0) (([1] : List Int))).bind fun t203 => (some (1, t203))) else (none)) else (if a0_0 = 5 then (qA7.j0 k l1 a0_0 (a0_0 == 5) a0_0 l0_1 a0_2 a0_3 a0_4 a2_0 a2_1 a2_2 a2_3 l2_4) else (qA7.j0 k l1 a0_0 (a0_0 == 6) a0_0 l0_1 a0_2 a0_3 a0_4 a2_0 a2_1 a2_2 a2_3 l2_4)))) = some (r1, r2) := h
 clear h
 by_cases c4 : a0_0 = 0
 ·rw [if_pos c4] at H
  have ⟨c4b0, c4b1⟩ := ze c4
  clear c4
  simp only [Option.some.injEq, Prod.mk.injEq] at H
  obtain ⟨rfl, rfl⟩ := H
  go_enter Try.func56, Try.ntmps56
  go_wp2_with (first | ((with_reducible refine qAC (N := 3) rfl ?_); (try (refine qC5 (by rfl) ?_; dsimp only)); refine qAD ?hg (N := 3) ?hd (cs := #[.int .i64 a0_0, .slice A0_1 l0_1.length c0_1, .int .i64 a0_2, .int .i64 a0_3, .string a0_4]) (t := 80) ?hr ?_; (case hd => rfl); (case hg => rfl); (case hr => first | (go_simp; done) | (go_simp; rfl)); intro gb197 hg w5 hbox hb; have BK197 := qA0.mk (hbox); have GW197 := zg w gb197; have GE197 := zg w gb197; replace HB := qA0.mk (qA1 zb hb); clear hb hbox hg) | ((with_reducible refine qAC (N := 5) rfl ?_); (try (refine qC5 (by rfl) ?_; dsimp only)); refine qAD ?hg (N := 5) ?hd (cs := #[.string a2_0, .int .i64 a2_1, .int .i64 a2_2, .bool a2_3, .slice A2_4 l2_4.length c2_4]) (t := 69) ?hr ?_; (case hd => rfl); (case hg => rfl); (case hr => first | (go_simp; done) | (go_simp; rfl)); intro gb198 hg w6 hbox hb; have BK198 := qA0.mk (hbox); have GW198 := zg w gb198; have GE198 := zg w gb198; have NB197_198 := zl BK197 gb198; have NB198_197 := zu BK197 gb198; replace BK197 := qA0.mk (qA5 (zk BK197) hb); replace HB := qA0.mk (qA1 zb hb); clear hb hbox hg; have hnb7 := NB197_198.out; have hnc7 := NB198_197.out; obtain ⟨hcz8_0, hcz8_1, hcz8_2, hcz8_3, hcz8_4, hfz8_0, hfz8_1, hfz8_2, hfz8_3, hfz8_4⟩ := bc5 BK197.out))
  go_ret2
  exact ⟨zf, zb⟩
 ·rw [if_neg c4] at H
  have ⟨c4b0, c4b1⟩ := zn c4
  by_cases c9 : a0_0 = 4
  ·rw [if_pos c9] at H
   have ⟨c9b0, c9b1⟩ := ze c9
   clear c9
   by_cases c10 : 0 < (l1.length : Int)
   ·rw [if_pos c10] at H
    have c10b0 := decide_eq_true c10
    have c10b1 : decide (0 < l1.length) = true := decide_eq_true (by omega)
    clear c10
    obtain ⟨y200, hy_⟩ : ∃ y_ : List Int, y_ = (([1] : List Int)) := ⟨_, rfl⟩
    replace H : ((qAA.f k (rd l1 0) y200).bind fun t203 => (some (1, t203))) = some (r1, r2) := zr
    have Ny200 := qA0.mk hy_
    clear hy_
    replace H := Option.bind_eq_some_iff.mp H
    obtain ⟨t203, A110, H⟩ := H
    have A11 := qA0.mk A110
    clear A110
    simp only [Option.some.injEq, Prod.mk.injEq] at H
    obtain ⟨rfl, rfl⟩ := H
    go_enter Try.func56, Try.ntmps56
    go_wp2_with (first | ((with_reducible refine qAC (N := 3) rfl ?_); (try (refine qC5 (by rfl) ?_; dsimp only)); refine qAD ?hg (N := 3) ?hd (cs := #[.int .i64 a0_0, .slice A0_1 l0_1.length c0_1, .int .i64 a0_2, .int .i64 a0_3, .string a0_4]) (t := 80) ?hr ?_; (case hd => rfl); (case hg => rfl); (case hr => first | (go_simp; done) | (go_simp; rfl)); intro gb197 hg w12 hbox hb; have BK197 := qA0.mk (hbox); have GW197 := zg w gb197; have GE197 := zg w gb197; replace HB := qA0.mk (qA1 zb hb); clear hb hbox hg) | ((with_reducible refine qAC (N := 5) rfl ?_); (try (refine qC5 (by rfl) ?_; dsimp only)); refine qAD ?hg (N := 5) ?hd (cs := #[.string a2_0, .int .i64 a2_1, .int .i64 a2_2, .bool a2_3, .slice A2_4 l2_4.length c2_4]) (t := 69) ?hr ?_; (case hd => rfl); (case hg => rfl); (case hr => first | (go_simp; done) | (go_simp; rfl)); intro gb198 hg w13 hbox hb; have BK198 := qA0.mk (hbox); have GW198 := zg w gb198; have GE198 := zg w gb198; have NB197_198 := zl BK197 gb198; have NB198_197 := zu BK197 gb198; replace BK197 := qA0.mk (qA5 (zk BK197) hb); replace HB := qA0.mk (qA1 zb hb); clear hb hbox hg; have hnb14 := NB197_198.out; have hnc14 := NB198_197.out; obtain ⟨hcz15_0, hcz15_1, hcz15_2, hcz15_3, hcz15_4, hfz15_0, hfz15_1, hfz15_2, hfz15_3, hfz15_4⟩ := bc5 BK197.out; have p199 : 0 ≤ (0 : Int) := (by omega); have q199 : 0 < (l1.length : Int) := zd; obtain ⟨ad199, e199, hx199_0⟩ := Kd.qCF HR1.out 0 p199 q199; cases e199; have qi199 : (0 < l1.length) = True := eq_true (by omega); (try rw [show ((0 : Int)).toNat = 0 from rfl] at hx199_0); (try rw [Addr.add_zero'] at hx199_0); replace hx199_0 := zh hx199_0; replace p199 := eq_true p199; replace q199 := eq_true q199) | ((with_reducible refine qAC (N := 27) rfl ?_); (try (refine qC5 (by rfl) ?_; dsimp only)); refine Kd.qF5 (Kd.int .i64) _ 3 ?hg (N := 27) ?hd (xs := ([1] : List Int)) (inner := [.int .i64 1]) (ok := fun _ => True) (okp := fun _ => True) ?hr ?hp (fun _ hk => hk) trivial (Below.refl _ _) (Nat.le_refl _) (by simp) ?_; (case hd => rfl); (case hg => rfl); (case hr => first | (go_simp; done) | (go_simp; rfl)); (case hp => exact (Reps.one (show Kd.M (Kd.int .i64) _ _ _ 1 [.int .i64 1] from rfl) (Reps.none _ _))); intro v201 w16 ho17 hb hg_ hnew_; clear hg_ hnew_; (first | rw [← Ny200.out] at ho17 | (simp only [Int.reduceToNat] at ho17; rw [← Ny200.out] at ho17)); have HO202 := qA0.mk (Kd.qC9 ho17 (qAM zb)); replace BK197 := qA0.mk (qA5 (zk BK197) hb); replace BK198 := qA0.mk (qA5 (zk BK198) hb); replace HB := qA0.mk (qA1 zb hb); clear hb ho17; obtain ⟨Ao18, co18, eo18⟩ := Kd.qBW HO202.out; subst eo18) | ((with_reducible refine qA9 (f := 70) rfl ?_); refine qC2 (some 28) Try.func70 #[.int .i64 (rd l1 0), .slice Ao18 y200.length co18] ?_; (with_reducible refine (qAA.calls k (rd l1 0) _ _ y200 t203 _ ?side1 ?side2 A11.out).mono ?_); (case side1 => repeat (first | exact (Kd.qAU HO202.out).2.2 | refine sC ?_)); (case side2 => exact (Kd.qAU HO202.out).2.1); rintro e w' ⟨rfl, ⟨nd, rfl⟩⟩; refine ⟨_, rfl, ?_⟩))
    go_ret2
    exact ⟨zf, zb⟩
   ·rw [if_neg c10] at H
    exact absurd H (by simp)
  ·rw [if_neg c9] at H
   have ⟨c9b0, c9b1⟩ := zn c9
   have HC19 := qA0.mk H
   clear H
   go_enter Try.func56, Try.ntmps56
   go_upto_if 29 with (first | ((with_reducible refine qAC (N := 3) rfl ?_); (try (refine qC5 (by rfl) ?_; dsimp only)); refine qAD ?hg (N := 3) ?hd (cs := #[.int .i64 a0_0, .slice A0_1 l0_1.length c0_1, .int .i64 a0_2, .int .i64 a0_3, .string a0_4]) (t := 80) ?hr ?_; (case hd => rfl); (case hg => rfl); (case hr => first | (go_simp; done) | (go_simp; rfl)); intro gb197 hg w20 hbox hb; have BK197 := qA0.mk (hbox); have GW197 := zg w gb197; have GE197 := zg w gb197; replace HB := qA0.mk (qA1 zb hb); clear hb hbox hg) | ((with_reducible refine qAC (N := 5) rfl ?_); (try (refine qC5 (by rfl) ?_; dsimp only)); refine qAD ?hg (N := 5) ?hd (cs := #[.string a2_0, .int .i64 a2_1, .int .i64 a2_2, .bool a2_3, .slice A2_4 l2_4.length c2_4]) (t := 69) ?hr ?_; (case hd => rfl); (case hg => rfl); (case hr => first | (go_simp; done) | (go_simp; rfl)); intro gb198 hg w21 hbox hb; have BK198 := qA0.mk (hbox); have GW198 := zg w gb198; have GE198 := zg w gb198; have NB197_198 := zl BK197 gb198; have NB198_197 := zu BK197 gb198; replace BK197 := qA0.mk (qA5 (zk BK197) hb); replace HB := qA0.mk (qA1 zb hb); clear hb hbox hg; have hnb22 := NB197_198.out; have hnc22 := NB198_197.out; obtain ⟨hcz23_0, hcz23_1, hcz23_2, hcz23_3, hcz23_4, hfz23_0, hfz23_1, hfz23_2, hfz23_3, hfz23_4⟩ := bc5 BK197.out))
   go_cut [29] (fun v29 wc => ∃ (kq : Nat) (x29_18 : Bool), v29 = .bool x29_18 ∧ qA0 (qA7.j0 kq l1 a0_0 x29_18 a0_0 l0_1 a0_2 a0_3 a0_4 a2_0 a2_1 a2_2 a2_3 l2_4 = some (r1, r2)) ∧ qA0 (kq ≤ k) ∧ qA0 (wc.heap[gb197]? = some (.cells #[.int .i64 a0_0, (.slice A0_1 l0_1.length c0_1), .int .i64 a0_2, .int .i64 a0_3, .string a0_4] 80 (0, 0))) ∧ qA0 (wc.heap[gb198]? = some (.cells #[.string a2_0, .int .i64 a2_1, .int .i64 a2_2, .bool a2_3, (.slice A2_4 l2_4.length c2_4)] 69 (0, 0))) ∧ qA0 (Below w.heap.size w wc))
   case first =>
    have H := HC19.out
    clear HC19
    by_cases c24 : a0_0 = 5
    ·rw [if_pos c24] at H
     have ⟨c24b0, c24b1⟩ := ze c24
     clear c24
     (first | rw [c24b0] | (simp only [qCE, qCJ]; rw [c24b0]) | skip)
     have H' := qA0.mk H
     clear H
     go_wp2
     go_meet
     case rel => exact ⟨_, ((a0_0 == 5)), zs, H', ⟨by first | omega | exact Nat.le_refl _⟩, ⟨zk BK197⟩, ⟨zk BK198⟩, ⟨zb⟩⟩
    ·rw [if_neg c24] at H
     have ⟨c24b0, c24b1⟩ := zn c24
     (first | rw [c24b0] | (simp only [qCE, qCJ]; rw [c24b0]) | skip)
     have H' := qA0.mk H
     clear H
     go_wp2
     go_meet
     case rel => exact ⟨_, ((a0_0 == 6)), zs, H', ⟨by first | omega | exact Nat.le_refl _⟩, ⟨zk BK197⟩, ⟨zk BK198⟩, ⟨zb⟩⟩
   case rest =>
    clear HC19 c4 c4b0 c4b1 c9 c9b0 c9b1 hcz23_0 hcz23_1 hcz23_2 hcz23_3 hcz23_4 hfz23_0 hfz23_1 hfz23_2 hfz23_3 hfz23_4
    obtain ⟨kq, x29_18, rfl, HA, HJ18, BK197, BK198, HB⟩ := hcut
    cases kq with
    | zero => exact absurd HA.out (by simp [qA7.j0])
    | succ kj18 =>
     have H := HA.out
     clear HA
     simp only [qA7.j0] at H
     by_cases c25 : x29_18 = true
     ·subst c25
      rw [if_pos rfl] at H
      by_cases c26 : 0 < (l1.length : Int)
      ·rw [if_pos c26] at H
       have c26b0 := decide_eq_true c26
       have c26b1 : decide (0 < l1.length) = true := decide_eq_true (by omega)
       clear c26
       obtain ⟨y205, hy_⟩ : ∃ y_ : List Int, y_ = (([1] : List Int)) := ⟨_, rfl⟩
       replace H : ((qAA.f kj18 (rd l1 0) y205).bind fun t208 => (if t208 = true then (if 1 < (l1.length : Int) then ((qAA.f kj18 (rd l1 1) (([1] : List Int))).bind fun t213 => (some (1, t213))) else (none)) else (some (1, false)))) = some (r1, r2) := zr
       have Ny205 := qA0.mk hy_
       clear hy_
       replace H := Option.bind_eq_some_iff.mp H
       obtain ⟨t208, A270, H⟩ := H
       have A27 := qA0.mk A270
       clear A270
       by_cases c28 : t208 = true
       ·subst c28
        rw [if_pos rfl] at H
        by_cases c29 : 1 < (l1.length : Int)
        ·rw [if_pos c29] at H
         have c29b0 := decide_eq_true c29
         have c29b1 : decide (1 < l1.length) = true := decide_eq_true (by omega)
         clear c29
         obtain ⟨y210, hy_⟩ : ∃ y_ : List Int, y_ = (([1] : List Int)) := ⟨_, rfl⟩
         replace H : ((qAA.f kj18 (rd l1 1) y210).bind fun t213 => (some (1, t213))) = some (r1, r2) := zr
         have Ny210 := qA0.mk hy_
         clear hy_
         replace H := Option.bind_eq_some_iff.mp H
         obtain ⟨t213, A300, H⟩ := H
         have A30 := qA0.mk A300
         clear A300
         simp only [Option.some.injEq, Prod.mk.injEq] at H
         obtain ⟨rfl, rfl⟩ := H
         have p204 : 0 ≤ (0 : Int) := (by omega)
         have q204 : 0 < (l1.length : Int) := zd
         obtain ⟨ad204, e204, hx204_0⟩ := Kd.qCF HR1.out 0 p204 q204
         cases e204
         have qi204 : (0 < l1.length) = True := eq_true (by omega)
         (try rw [show ((0 : Int)).toNat = 0 from rfl] at hx204_0)
         (try rw [Addr.add_zero'] at hx204_0)
         (try replace hx204_0 := zh hx204_0)
         replace p204 := eq_true p204
         replace q204 := eq_true q204
         go_wp2_with (first | ((with_reducible refine qAC (N := 35) rfl ?_); (try (refine qC5 (by rfl) ?_; dsimp only)); refine Kd.qF5 (Kd.int .i64) _ 3 ?hg (N := 35) ?hd (xs := ([1] : List Int)) (inner := [.int .i64 1]) (ok := fun _ => True) (okp := fun _ => True) ?hr ?hp (fun _ hk => hk) trivial (Below.refl _ _) (Nat.le_refl _) (by simp) ?_; (case hd => rfl); (case hg => rfl); (case hr => first | (go_simp; done) | (go_simp; rfl)); (case hp => exact (Reps.one (show Kd.M (Kd.int .i64) _ _ _ 1 [.int .i64 1] from rfl) (Reps.none _ _))); intro v206 w31 ho32 hb hg_ hnew_; clear hg_ hnew_; (first | rw [← Ny205.out] at ho32 | (simp only [Int.reduceToNat] at ho32; rw [← Ny205.out] at ho32)); have HO207 := qA0.mk (Kd.qC9 ho32 (qAM zb)); replace BK197 := qA0.mk (qA5 (zk BK197) hb); replace BK198 := qA0.mk (qA5 (zk BK198) hb); replace HB := qA0.mk (qA1 zb hb); clear hb ho32; obtain ⟨Ao33, co33, eo33⟩ := Kd.qBW HO207.out; subst eo33) | ((with_reducible refine qA9 (f := 70) rfl ?_); refine qC2 (some 36) Try.func70 #[.int .i64 (rd l1 0), .slice Ao33 y205.length co33] ?_; (with_reducible refine (qAA.calls kj18 (rd l1 0) _ _ y205 true _ ?side1 ?side2 A27.out).mono ?_); (case side1 => repeat (first | exact (Kd.qAU HO207.out).2.2 | refine sC ?_)); (case side2 => exact (Kd.qAU HO207.out).2.1); rintro e w' ⟨rfl, ⟨nd, rfl⟩⟩; refine ⟨_, rfl, ?_⟩; have p209 : 0 ≤ (1 : Int) := (by omega); have q209 : 1 < (l1.length : Int) := zd; obtain ⟨ad209, e209, hx209_0⟩ := Kd.qCF HR1.out 1 p209 q209; obtain rfl : ad204 = ad209 := (by injection e209); (try simp only [show (1 : Int).toNat = 1 from rfl, Nat.reduceMul, Nat.reduceEqDiff, Go.Addr.add, ↓reduceIte] at hx209_0); have qi209 : (1 < l1.length) = True := eq_true (by omega); (try rw [show ((1 : Int)).toNat = 1 from rfl] at hx209_0); replace hx209_0 := zh hx209_0; replace p209 := eq_true p209; replace q209 := eq_true q209) | ((with_reducible refine qAC (N := 41) rfl ?_); (try (refine qC5 (by rfl) ?_; dsimp only)); refine Kd.qF5 (Kd.int .i64) _ 3 ?hg (N := 41) ?hd (xs := ([1] : List Int)) (inner := [.int .i64 1]) (ok := fun _ => True) (okp := fun _ => True) ?hr ?hp (fun _ hk => hk) trivial (Below.refl _ _) (Nat.le_refl _) (by simp) ?_; (case hd => rfl); (case hg => rfl); (case hr => first | (go_simp; done) | (go_simp; rfl)); (case hp => exact (Reps.one (show Kd.M (Kd.int .i64) _ _ _ 1 [.int .i64 1] from rfl) (Reps.none _ _))); intro v211 w34 ho35 hb hg_ hnew_; clear hg_ hnew_; (first | rw [← Ny210.out] at ho35 | (simp only [Int.reduceToNat] at ho35; rw [← Ny210.out] at ho35)); have HO212 := qA0.mk (Kd.qC9 (Kd.R_new' ho35 (Kd.R_lt (by (with_reducible repeat (first | apply Kd.qDG | apply Kd.qDF | apply Kd.qDJ)); exact HO207.out))) (qAM zb)); replace HO207 := qA0.mk (Kd.qFA (by (with_reducible repeat (first | apply Kd.qDG | apply Kd.qDF | apply Kd.qDJ)); exact HO207.out) (Kd.qEO ho35) hb); replace BK197 := qA0.mk (qA5 (zk BK197) hb); replace BK198 := qA0.mk (qA5 (zk BK198) hb); replace HB := qA0.mk (qA1 zb hb); clear hb ho35; obtain ⟨Ao36, co36, eo36⟩ := Kd.qBW HO212.out; subst eo36) | (go_at_call 70; (with_reducible refine (qAA.calls kj18 (rd l1 1) _ _ y210 t213 _ ?side1 ?side2 A30.out).mono ?_); (case side1 => repeat (first | exact (Kd.qAU HO212.out).2.2 | refine sC ?_)); (case side2 => exact (Kd.qAU HO212.out).2.1); rintro e w' ⟨rfl, ⟨nd, rfl⟩⟩))
         go_ret2
         exact ⟨zf, zb⟩
        ·rw [if_neg c29] at H
         exact absurd H (by simp)
       ·replace c28 := Bool.eq_false_iff.mpr c28
        subst c28
        rw [if_neg (show ¬ (false = true) by decide)] at H
        simp only [Option.some.injEq, Prod.mk.injEq] at H
        obtain ⟨rfl, rfl⟩ := H
        have p204 : 0 ≤ (0 : Int) := (by omega)
        have q204 : 0 < (l1.length : Int) := zd
        obtain ⟨ad204, e204, hx204_0⟩ := Kd.qCF HR1.out 0 p204 q204
        cases e204
        have qi204 : (0 < l1.length) = True := eq_true (by omega)
        (try rw [show ((0 : Int)).toNat = 0 from rfl] at hx204_0)
        (try rw [Addr.add_zero'] at hx204_0)
        (try replace hx204_0 := zh hx204_0)
        replace p204 := eq_true p204
        replace q204 := eq_true q204
        go_wp2_with (first | ((with_reducible refine qAC (N := 35) rfl ?_); (try (refine qC5 (by rfl) ?_; dsimp only)); refine Kd.qF5 (Kd.int .i64) _ 3 ?hg (N := 35) ?hd (xs := ([1] : List Int)) (inner := [.int .i64 1]) (ok := fun _ => True) (okp := fun _ => True) ?hr ?hp (fun _ hk => hk) trivial (Below.refl _ _) (Nat.le_refl _) (by simp) ?_; (case hd => rfl); (case hg => rfl); (case hr => first | (go_simp; done) | (go_simp; rfl)); (case hp => exact (Reps.one (show Kd.M (Kd.int .i64) _ _ _ 1 [.int .i64 1] from rfl) (Reps.none _ _))); intro v206 w37 ho38 hb hg_ hnew_; clear hg_ hnew_; (first | rw [← Ny205.out] at ho38 | (simp only [Int.reduceToNat] at ho38; rw [← Ny205.out] at ho38)); have HO207 := qA0.mk (Kd.qC9 ho38 (qAM zb)); replace BK197 := qA0.mk (qA5 (zk BK197) hb); replace BK198 := qA0.mk (qA5 (zk BK198) hb); replace HB := qA0.mk (qA1 zb hb); clear hb ho38; obtain ⟨Ao39, co39, eo39⟩ := Kd.qBW HO207.out; subst eo39) | ((with_reducible refine qA9 (f := 70) rfl ?_); refine qC2 (some 36) Try.func70 #[.int .i64 (rd l1 0), .slice Ao39 y205.length co39] ?_; (with_reducible refine (qAA.calls kj18 (rd l1 0) _ _ y205 false _ ?side1 ?side2 A27.out).mono ?_); (case side1 => repeat (first | exact (Kd.qAU HO207.out).2.2 | refine sC ?_)); (case side2 => exact (Kd.qAU HO207.out).2.1); rintro e w' ⟨rfl, ⟨nd, rfl⟩⟩; refine ⟨_, rfl, ?_⟩))
        go_ret2
        exact ⟨zf, zb⟩
      ·rw [if_neg c26] at H
       exact absurd H (by simp)
     ·replace c25 := Bool.eq_false_iff.mpr c25
      subst c25
      rw [if_neg (show ¬ (false = true) by decide)] at H
      by_cases c40 : a0_0 = 9
      ·rw [if_pos c40] at H
       have ⟨c40b0, c40b1⟩ := ze c40
       clear c40
       by_cases c41 : 0 < (l1.length : Int)
       ·rw [if_pos c41] at H
        have c41b0 := decide_eq_true c41
        have c41b1 : decide (0 < l1.length) = true := decide_eq_true (by omega)
        clear c41
        by_cases c42 : 1 < (l1.length : Int)
        ·rw [if_pos c42] at H
         have c42b0 := decide_eq_true c42
         have c42b1 : decide (1 < l1.length) = true := decide_eq_true (by omega)
         clear c42
         replace H := Option.bind_eq_some_iff.mp H
         obtain ⟨⟨t216, t217⟩, A430, H⟩ := H
         replace H : (some (1, t217)) = some (r1, r2) := H
         have A43 := qA0.mk A430
         clear A430
         simp only [Option.some.injEq, Prod.mk.injEq] at H
         obtain ⟨rfl, rfl⟩ := H
         try go_wp2
         replace BK197 := qA0.mk (qBX BK197.out)
         replace BK198 := qA0.mk (qBX BK198.out)
         replace HB := qA0.mk (qBO HB.out)
         have p214 : 0 ≤ (0 : Int) := (by omega)
         have q214 : 0 < (l1.length : Int) := zd
         obtain ⟨ad214, e214, hx214_0⟩ := Kd.qCF HR1.out 0 p214 q214
         have hw214_0 := hx214_0
         (try rw [show ((0 : Int)).toNat = 0 from rfl] at hw214_0)
         (try rw [Addr.add_zero'] at hw214_0)
         cases e214
         have qi214 : (0 < l1.length) = True := eq_true (by omega)
         (try rw [show ((0 : Int)).toNat = 0 from rfl] at hx214_0)
         (try rw [Addr.add_zero'] at hx214_0)
         (try replace hx214_0 := zh hx214_0)
         replace p214 := eq_true p214
         replace q214 := eq_true q214
         have p215 : 0 ≤ (1 : Int) := (by omega)
         have q215 : 1 < (l1.length : Int) := zd
         obtain ⟨ad215, e215, hx215_0⟩ := Kd.qCF HR1.out 1 p215 q215
         have hw215_0 := hx215_0
         (try rw [show ((1 : Int)).toNat = 1 from rfl] at hw215_0)
         (try simp only [Nat.reduceMul, Nat.reduceEqDiff, Go.Addr.add, ↓reduceIte] at hw215_0)
         obtain rfl : ad214 = ad215 := (by injection e215)
         (try simp only [show (1 : Int).toNat = 1 from rfl, Nat.reduceMul, Nat.reduceEqDiff, Go.Addr.add, ↓reduceIte] at hx215_0)
         have qi215 : (1 < l1.length) = True := eq_true (by omega)
         (try replace hx215_0 := zh hx215_0)
         replace p215 := eq_true p215
         replace q215 := eq_true q215
         refine qEJ (n := 12) (S := fun w' => w'.cell? ad214 = some (.int .i64 (rd l1 0)) ∧ w'.cell? ⟨ad214.block, ad214.off + 1, none⟩ = some (.int .i64 (rd l1 1))) (ds := []) (bs 12 0) (by kernel_rfl) rfl rfl ⟨(zh hw214_0), (zh hw215_0)⟩ (fun hHeld => ?_); refine qD7 qA7.tab10 qA7.bits10 (fun HT_ HW_ => ?_)
         generalize wc.drew = w44 at BK197 BK198 HB hx214_0 hx215_0 hHeld ⊢
         refine qBP (i := 0) (N := some 47) (bs 12 1) ?_
         refine qBP (i := 1) (N := some 48) (bs 12 3) ?_
         refine qBP (i := 3) (N := some 50) (bs 12 11) ?_
         refine qBP (i := 4) (N := some 51) (bs 12 27) ?_
         refine qE7 (i := 2) (N := some 49) (bs 12 31) ?_
         refine qE7 (i := 5) (N := some 52) (bs 12 63) ?_
         refine one_ (i := 6) (N := some 53) (bs 12 127) rfl rfl (qDL HT_.out (by kernel_rfl)) (by decide) (fun K hK => ?_)
         refine qF8 Try.func71 (by kernel_rfl) rfl #[.int .i64 (rd l1 0), .int .i64 (rd l1 1)] (by rfl) rfl rfl (by (try simp only [List.map_toArray, List.map_cons, List.map_nil]); first | done | rfl | (simp only [List.length_drop, List.length_take]; rfl)) ?_
         with_reducible refine (qCN.calls (rd l1 0) (rd l1 1) t216 t217 _ A43.out).mono ?_
         rintro e w' ⟨rfl, ⟨nd, rfl⟩⟩
         refine ⟨_, rfl, ?_⟩
         refine hK.out _ _ ⟨(zh hw214_0), (zh hw215_0)⟩ (fun hHeld => ?_)
         clear hK K
         refine qF1 ?_
         refine qBP (i := 7) (N := some 46) (bs 12 255) ?_
         refine qBP (i := 8) (N := some 54) (bs 12 511) ?_
         refine qBP (i := 9) (N := some 55) (bs 12 1023) ?_
         refine qBP (i := 10) (N := some 8) (bs 12 2047) ?_
         refine qBP (i := 11) (N := some 9) (bs 12 4095) ?_
         refine done_ (qCP HT_.out (by kernel_rfl)) ?_
         try go_wp2
         go_ret2
         exact ⟨zf, zb⟩
        ·rw [if_neg c42] at H
         exact absurd H (by simp)
       ·rw [if_neg c41] at H
        exact absurd H (by simp)
      ·rw [if_neg c40] at H
       have ⟨c40b0, c40b1⟩ := zn c40
       have HC45 := qA0.mk H
       clear H
       go_upto_if 57 with (fail)
       go_cut [57] (fun v57 wc => ∃ (kq : Nat) (x57_44 : Bool), v57 = .bool x57_44 ∧ qA0 (qA7.j1 kq l1 a0_0 x57_44 a0_0 l0_1 a0_2 a0_3 a0_4 a2_0 a2_1 a2_2 a2_3 l2_4 = some (r1, r2)) ∧ qA0 (kq ≤ kj18) ∧ qA0 (wc.heap[gb197]? = some (.cells #[.int .i64 a0_0, (.slice A0_1 l0_1.length c0_1), .int .i64 a0_2, .int .i64 a0_3, .string a0_4] 80 (0, 0))) ∧ qA0 (wc.heap[gb198]? = some (.cells #[.string a2_0, .int .i64 a2_1, .int .i64 a2_2, .bool a2_3, (.slice A2_4 l2_4.length c2_4)] 69 (0, 0))) ∧ qA0 (Below w.heap.size w wc))
       case first =>
        have H := HC45.out
        clear HC45
        by_cases c46 : a0_0 = 7
        ·rw [if_pos c46] at H
         have ⟨c46b0, c46b1⟩ := ze c46
         clear c46
         (first | rw [c46b0] | (simp only [qCE, qCJ]; rw [c46b0]) | skip)
         have H' := qA0.mk H
         clear H
         go_wp2
         go_meet
         case rel => exact ⟨_, ((a0_0 == 7)), zs, H', ⟨by have := HJ18.out; first | omega | exact Nat.le_refl _⟩, ⟨zk BK197⟩, ⟨zk BK198⟩, ⟨zb⟩⟩
        ·rw [if_neg c46] at H
         have ⟨c46b0, c46b1⟩ := zn c46
         (first | rw [c46b0] | (simp only [qCE, qCJ]; rw [c46b0]) | skip)
         have H' := qA0.mk H
         clear H
         go_wp2
         go_meet
         case rel => exact ⟨_, ((a0_0 == 8)), zs, H', ⟨by have := HJ18.out; first | omega | exact Nat.le_refl _⟩, ⟨zk BK197⟩, ⟨zk BK198⟩, ⟨zb⟩⟩
       case rest =>
        clear HC45 c40 c40b0 c40b1
        obtain ⟨kq, x57_44, rfl, HA, HJ44, BK197, BK198, HB⟩ := hcut
        cases kq with
        | zero => exact absurd HA.out (by simp [qA7.j1])
        | succ kj44 =>
         have H := HA.out
         clear HA
         simp only [qA7.j1] at H
         by_cases c47 : x57_44 = true
         ·subst c47
          rw [if_pos rfl] at H
          by_cases c48 : 0 < (l1.length : Int)
          ·rw [if_pos c48] at H
           have c48b0 := decide_eq_true c48
           have c48b1 : decide (0 < l1.length) = true := decide_eq_true (by omega)
           clear c48
           by_cases c49 : 1 < (l1.length : Int)
           ·rw [if_pos c49] at H
            have c49b0 := decide_eq_true c49
            have c49b1 : decide (1 < l1.length) = true := decide_eq_true (by omega)
            clear c49
            replace H := Option.bind_eq_some_iff.mp H
            obtain ⟨⟨t220, t221⟩, A500, H⟩ := H
            replace H : (if t221 = true then (some (1, (t220 != 1))) else (some (1, false))) = some (r1, r2) := H
            have A50 := qA0.mk A500
            clear A500
            by_cases c51 : t221 = true
            ·subst c51
             rw [if_pos rfl] at H
             simp only [Option.some.injEq, Prod.mk.injEq] at H
             obtain ⟨rfl, rfl⟩ := H
             try go_wp2
             replace BK197 := qA0.mk (qBX BK197.out)
             replace BK198 := qA0.mk (qBX BK198.out)
             replace HB := qA0.mk (qBO HB.out)
             have p218 : 0 ≤ (0 : Int) := (by omega)
             have q218 : 0 < (l1.length : Int) := zd
             obtain ⟨ad218, e218, hx218_0⟩ := Kd.qCF HR1.out 0 p218 q218
             have hw218_0 := hx218_0
             (try rw [show ((0 : Int)).toNat = 0 from rfl] at hw218_0)
             (try rw [Addr.add_zero'] at hw218_0)
             cases e218
             have qi218 : (0 < l1.length) = True := eq_true (by omega)
             (try rw [show ((0 : Int)).toNat = 0 from rfl] at hx218_0)
             (try rw [Addr.add_zero'] at hx218_0)
             (try replace hx218_0 := zh hx218_0)
             replace p218 := eq_true p218
             replace q218 := eq_true q218
             have p219 : 0 ≤ (1 : Int) := (by omega)
             have q219 : 1 < (l1.length : Int) := zd
             obtain ⟨ad219, e219, hx219_0⟩ := Kd.qCF HR1.out 1 p219 q219
             have hw219_0 := hx219_0
             (try rw [show ((1 : Int)).toNat = 1 from rfl] at hw219_0)
             (try simp only [Nat.reduceMul, Nat.reduceEqDiff, Go.Addr.add, ↓reduceIte] at hw219_0)
             obtain rfl : ad218 = ad219 := (by injection e219)
             (try simp only [show (1 : Int).toNat = 1 from rfl, Nat.reduceMul, Nat.reduceEqDiff, Go.Addr.add, ↓reduceIte] at hx219_0)
             have qi219 : (1 < l1.length) = True := eq_true (by omega)
             (try replace hx219_0 := zh hx219_0)
             replace p219 := eq_true p219
             replace q219 := eq_true q219
             refine qEJ (n := 12) (S := fun w' => w'.cell? ad218 = some (.int .i64 (rd l1 0)) ∧ w'.cell? ⟨ad218.block, ad218.off + 1, none⟩ = some (.int .i64 (rd l1 1))) (ds := []) (bs 12 0) (by kernel_rfl) rfl rfl ⟨(zh hw218_0), (zh hw219_0)⟩ (fun hHeld => ?_); refine qD7 qA7.tab14 qA7.bits14 (fun HT_ HW_ => ?_)
             generalize wc.drew = w52 at BK197 BK198 HB hx218_0 hx219_0 hHeld ⊢
             refine qBP (i := 0) (N := some 61) (bs 12 1) ?_
             refine qBP (i := 1) (N := some 62) (bs 12 3) ?_
             refine qBP (i := 3) (N := some 64) (bs 12 11) ?_
             refine qBP (i := 4) (N := some 65) (bs 12 27) ?_
             refine qE7 (i := 2) (N := some 63) (bs 12 31) ?_
             refine qE7 (i := 5) (N := some 66) (bs 12 63) ?_
             refine one_ (i := 6) (N := some 67) (bs 12 127) rfl rfl (qDL HT_.out (by kernel_rfl)) (by decide) (fun K hK => ?_)
             refine qF8 Try.func71 (by kernel_rfl) rfl #[.int .i64 (rd l1 0), .int .i64 (rd l1 1)] (by rfl) rfl rfl (by (try simp only [List.map_toArray, List.map_cons, List.map_nil]); first | done | rfl | (simp only [List.length_drop, List.length_take]; rfl)) ?_
             with_reducible refine (qCN.calls (rd l1 0) (rd l1 1) t220 true _ A50.out).mono ?_
             rintro e w' ⟨rfl, ⟨nd, rfl⟩⟩
             refine ⟨_, rfl, ?_⟩
             refine hK.out _ _ ⟨(zh hw218_0), (zh hw219_0)⟩ (fun hHeld => ?_)
             clear hK K
             refine qF1 ?_
             refine qBP (i := 7) (N := some 60) (bs 12 255) ?_
             refine qBP (i := 8) (N := some 68) (bs 12 511) ?_
             refine qBP (i := 9) (N := some 69) (bs 12 1023) ?_
             refine qBP (i := 10) (N := some 10) (bs 12 2047) ?_
             refine qBP (i := 11) (N := some 11) (bs 12 4095) ?_
             refine done_ (qCP HT_.out (by kernel_rfl)) ?_
             try go_wp2
             go_ret2
             exact ⟨zf, zb⟩
            ·replace c51 := Bool.eq_false_iff.mpr c51
             subst c51
             rw [if_neg (show ¬ (false = true) by decide)] at H
             simp only [Option.some.injEq, Prod.mk.injEq] at H
             obtain ⟨rfl, rfl⟩ := H
             try go_wp2
             replace BK197 := qA0.mk (qBX BK197.out)
             replace BK198 := qA0.mk (qBX BK198.out)
             replace HB := qA0.mk (qBO HB.out)
             have p218 : 0 ≤ (0 : Int) := (by omega)
             have q218 : 0 < (l1.length : Int) := zd
             obtain ⟨ad218, e218, hx218_0⟩ := Kd.qCF HR1.out 0 p218 q218
             have hw218_0 := hx218_0
             (try rw [show ((0 : Int)).toNat = 0 from rfl] at hw218_0)
             (try rw [Addr.add_zero'] at hw218_0)
             cases e218
             have qi218 : (0 < l1.length) = True := eq_true (by omega)
             (try rw [show ((0 : Int)).toNat = 0 from rfl] at hx218_0)
             (try rw [Addr.add_zero'] at hx218_0)
             (try replace hx218_0 := zh hx218_0)
             replace p218 := eq_true p218
             replace q218 := eq_true q218
             have p219 : 0 ≤ (1 : Int) := (by omega)
             have q219 : 1 < (l1.length : Int) := zd
             obtain ⟨ad219, e219, hx219_0⟩ := Kd.qCF HR1.out 1 p219 q219
             have hw219_0 := hx219_0
             (try rw [show ((1 : Int)).toNat = 1 from rfl] at hw219_0)
             (try simp only [Nat.reduceMul, Nat.reduceEqDiff, Go.Addr.add, ↓reduceIte] at hw219_0)
             obtain rfl : ad218 = ad219 := (by injection e219)
             (try simp only [show (1 : Int).toNat = 1 from rfl, Nat.reduceMul, Nat.reduceEqDiff, Go.Addr.add, ↓reduceIte] at hx219_0)
             have qi219 : (1 < l1.length) = True := eq_true (by omega)
             (try replace hx219_0 := zh hx219_0)
             replace p219 := eq_true p219
             replace q219 := eq_true q219
             refine qEJ (n := 12) (S := fun w' => w'.cell? ad218 = some (.int .i64 (rd l1 0)) ∧ w'.cell? ⟨ad218.block, ad218.off + 1, none⟩ = some (.int .i64 (rd l1 1))) (ds := []) (bs 12 0) (by kernel_rfl) rfl rfl ⟨(zh hw218_0), (zh hw219_0)⟩ (fun hHeld => ?_); refine qD7 qA7.tab14 qA7.bits14 (fun HT_ HW_ => ?_)
             generalize wc.drew = w53 at BK197 BK198 HB hx218_0 hx219_0 hHeld ⊢
             refine qBP (i := 0) (N := some 61) (bs 12 1) ?_
             refine qBP (i := 1) (N := some 62) (bs 12 3) ?_
             refine qBP (i := 3) (N := some 64) (bs 12 11) ?_
             refine qBP (i := 4) (N := some 65) (bs 12 27) ?_
             refine qE7 (i := 2) (N := some 63) (bs 12 31) ?_
             refine qE7 (i := 5) (N := some 66) (bs 12 63) ?_
             refine one_ (i := 6) (N := some 67) (bs 12 127) rfl rfl (qDL HT_.out (by kernel_rfl)) (by decide) (fun K hK => ?_)
             refine qF8 Try.func71 (by kernel_rfl) rfl #[.int .i64 (rd l1 0), .int .i64 (rd l1 1)] (by rfl) rfl rfl (by (try simp only [List.map_toArray, List.map_cons, List.map_nil]); first | done | rfl | (simp only [List.length_drop, List.length_take]; rfl)) ?_
             with_reducible refine (qCN.calls (rd l1 0) (rd l1 1) t220 false _ A50.out).mono ?_
             rintro e w' ⟨rfl, ⟨nd, rfl⟩⟩
             refine ⟨_, rfl, ?_⟩
             refine hK.out _ _ ⟨(zh hw218_0), (zh hw219_0)⟩ (fun hHeld => ?_)
             clear hK K
             refine qF1 ?_
             refine qBP (i := 7) (N := some 60) (bs 12 255) ?_
             refine qBP (i := 8) (N := some 68) (bs 12 511) ?_
             refine qBP (i := 9) (N := some 69) (bs 12 1023) ?_
             refine qBP (i := 10) (N := some 10) (bs 12 2047) ?_
             refine qBP (i := 11) (N := some 11) (bs 12 4095) ?_
             refine done_ (qCP HT_.out (by kernel_rfl)) ?_
             try go_wp2
             go_ret2
             exact ⟨zf, zb⟩
           ·rw [if_neg c49] at H
            exact absurd H (by simp)
          ·rw [if_neg c48] at H
           exact absurd H (by simp)
         ·replace c47 := Bool.eq_false_iff.mpr c47
          subst c47
          rw [if_neg (show ¬ (false = true) by decide)] at H
          have HC54 := qA0.mk H
          clear H
          go_upto_if 75 with (fail)
          go_cut [75] (fun v75 wc => ∃ (kq : Nat) (x75_53 : Bool), v75 = .bool x75_53 ∧ qA0 (qA7.j2 kq l1 a0_0 x75_53 a0_0 l0_1 a0_2 a0_3 a0_4 a2_0 a2_1 a2_2 a2_3 l2_4 = some (r1, r2)) ∧ qA0 (kq ≤ kj44) ∧ qA0 (wc.heap[gb197]? = some (.cells #[.int .i64 a0_0, (.slice A0_1 l0_1.length c0_1), .int .i64 a0_2, .int .i64 a0_3, .string a0_4] 80 (0, 0))) ∧ qA0 (wc.heap[gb198]? = some (.cells #[.string a2_0, .int .i64 a2_1, .int .i64 a2_2, .bool a2_3, (.slice A2_4 l2_4.length c2_4)] 69 (0, 0))) ∧ qA0 (Below w.heap.size w wc))
          case first =>
           have H := HC54.out
           clear HC54
           by_cases c55 : a0_0 = 13
           ·rw [if_pos c55] at H
            have ⟨c55b0, c55b1⟩ := ze c55
            clear c55
            (first | rw [c55b0] | (simp only [qCE, qCJ]; rw [c55b0]) | skip)
            have H' := qA0.mk H
            clear H
            go_wp2
            go_meet
            case rel => exact ⟨_, ((a0_0 == 13)), zs, H', ⟨by have := HJ18.out; have := HJ44.out; first | omega | exact Nat.le_refl _⟩, ⟨zk BK197⟩, ⟨zk BK198⟩, ⟨zb⟩⟩
           ·rw [if_neg c55] at H
            have ⟨c55b0, c55b1⟩ := zn c55
            (first | rw [c55b0] | (simp only [qCE, qCJ]; rw [c55b0]) | skip)
            have H' := qA0.mk H
            clear H
            go_wp2
            go_meet
            case rel => exact ⟨_, ((a0_0 == 14)), zs, H', ⟨by have := HJ18.out; have := HJ44.out; first | omega | exact Nat.le_refl _⟩, ⟨zk BK197⟩, ⟨zk BK198⟩, ⟨zb⟩⟩
          case rest =>
           clear HC54
           obtain ⟨kq, x75_53, rfl, HA, HJ53, BK197, BK198, HB⟩ := hcut
           cases kq with
           | zero => exact absurd HA.out (by simp [qA7.j2])
           | succ kj53 =>
            have H := HA.out
            clear HA
            simp only [qA7.j2] at H
            by_cases c56 : x75_53 = true
            ·subst c56
             rw [if_pos rfl] at H
             by_cases c57 : 0 < (l1.length : Int)
             ·rw [if_pos c57] at H
              have c57b0 := decide_eq_true c57
              have c57b1 : decide (0 < l1.length) = true := decide_eq_true (by omega)
              clear c57
              by_cases c58 : 1 < (l1.length : Int)
              ·rw [if_pos c58] at H
               have c58b0 := decide_eq_true c58
               have c58b1 : decide (1 < l1.length) = true := decide_eq_true (by omega)
               clear c58
               replace H := Option.bind_eq_some_iff.mp H
               obtain ⟨⟨t224, t225⟩, A590, H⟩ := H
               replace H : (if t225 = true then (some (t224, (t224 != 1))) else (some (t224, false))) = some (r1, r2) := H
               have A59 := qA0.mk A590
               clear A590
               by_cases c60 : t225 = true
               ·subst c60
                rw [if_pos rfl] at H
                simp only [Option.some.injEq, Prod.mk.injEq] at H
                obtain ⟨rfl, rfl⟩ := H
                try go_wp2
                replace BK197 := qA0.mk (qBX BK197.out)
                replace BK198 := qA0.mk (qBX BK198.out)
                replace HB := qA0.mk (qBO HB.out)
                have p222 : 0 ≤ (0 : Int) := (by omega)
                have q222 : 0 < (l1.length : Int) := zd
                obtain ⟨ad222, e222, hx222_0⟩ := Kd.qCF HR1.out 0 p222 q222
                have hw222_0 := hx222_0
                (try rw [show ((0 : Int)).toNat = 0 from rfl] at hw222_0)
                (try rw [Addr.add_zero'] at hw222_0)
                cases e222
                have qi222 : (0 < l1.length) = True := eq_true (by omega)
                (try rw [show ((0 : Int)).toNat = 0 from rfl] at hx222_0)
                (try rw [Addr.add_zero'] at hx222_0)
                (try replace hx222_0 := zh hx222_0)
                replace p222 := eq_true p222
                replace q222 := eq_true q222
                have p223 : 0 ≤ (1 : Int) := (by omega)
                have q223 : 1 < (l1.length : Int) := zd
                obtain ⟨ad223, e223, hx223_0⟩ := Kd.qCF HR1.out 1 p223 q223
                have hw223_0 := hx223_0
                (try rw [show ((1 : Int)).toNat = 1 from rfl] at hw223_0)
                (try simp only [Nat.reduceMul, Nat.reduceEqDiff, Go.Addr.add, ↓reduceIte] at hw223_0)
                obtain rfl : ad222 = ad223 := (by injection e223)
                (try simp only [show (1 : Int).toNat = 1 from rfl, Nat.reduceMul, Nat.reduceEqDiff, Go.Addr.add, ↓reduceIte] at hx223_0)
                have qi223 : (1 < l1.length) = True := eq_true (by omega)
                (try replace hx223_0 := zh hx223_0)
                replace p223 := eq_true p223
                replace q223 := eq_true q223
                refine qEJ (n := 12) (S := fun w' => w'.cell? ad222 = some (.int .i64 (rd l1 0)) ∧ w'.cell? ⟨ad222.block, ad222.off + 1, none⟩ = some (.int .i64 (rd l1 1))) (ds := []) (bs 12 0) (by kernel_rfl) rfl rfl ⟨(zh hw222_0), (zh hw223_0)⟩ (fun hHeld => ?_); refine qD7 qA7.tab18 qA7.bits18 (fun HT_ HW_ => ?_)
                generalize wc.drew = w61 at BK197 BK198 HB hx222_0 hx223_0 hHeld ⊢
                refine qBP (i := 0) (N := some 79) (bs 12 1) ?_
                refine qBP (i := 1) (N := some 80) (bs 12 3) ?_
                refine qBP (i := 3) (N := some 82) (bs 12 11) ?_
                refine qBP (i := 4) (N := some 83) (bs 12 27) ?_
                refine qE7 (i := 2) (N := some 81) (bs 12 31) ?_
                refine qE7 (i := 5) (N := some 84) (bs 12 63) ?_
                refine one_ (i := 6) (N := some 85) (bs 12 127) rfl rfl (qDL HT_.out (by kernel_rfl)) (by decide) (fun K hK => ?_)
                refine qF8 Try.func71 (by kernel_rfl) rfl #[.int .i64 (rd l1 0), .int .i64 (rd l1 1)] (by rfl) rfl rfl (by (try simp only [List.map_toArray, List.map_cons, List.map_nil]); first | done | rfl | (simp only [List.length_drop, List.length_take]; rfl)) ?_
                with_reducible refine (qCN.calls (rd l1 0) (rd l1 1) t224 true _ A59.out).mono ?_
                rintro e w' ⟨rfl, ⟨nd, rfl⟩⟩
                refine ⟨_, rfl, ?_⟩
                refine hK.out _ _ ⟨(zh hw222_0), (zh hw223_0)⟩ (fun hHeld => ?_)
                clear hK K
                refine qF1 ?_
                refine qBP (i := 7) (N := some 78) (bs 12 255) ?_
                refine qBP (i := 8) (N := some 86) (bs 12 511) ?_
                refine qBP (i := 9) (N := some 87) (bs 12 1023) ?_
                refine qBP (i := 10) (N := some 12) (bs 12 2047) ?_
                refine qBP (i := 11) (N := some 13) (bs 12 4095) ?_
                refine done_ (qCP HT_.out (by kernel_rfl)) ?_
                try go_wp2
                go_ret2
                exact ⟨zf, zb⟩
               ·replace c60 := Bool.eq_false_iff.mpr c60
                subst c60
                rw [if_neg (show ¬ (false = true) by decide)] at H
                simp only [Option.some.injEq, Prod.mk.injEq] at H
                obtain ⟨rfl, rfl⟩ := H
                try go_wp2
                replace BK197 := qA0.mk (qBX BK197.out)
                replace BK198 := qA0.mk (qBX BK198.out)
                replace HB := qA0.mk (qBO HB.out)
                have p222 : 0 ≤ (0 : Int) := (by omega)
                have q222 : 0 < (l1.length : Int) := zd
                obtain ⟨ad222, e222, hx222_0⟩ := Kd.qCF HR1.out 0 p222 q222
                have hw222_0 := hx222_0
                (try rw [show ((0 : Int)).toNat = 0 from rfl] at hw222_0)
                (try rw [Addr.add_zero'] at hw222_0)
                cases e222
                have qi222 : (0 < l1.length) = True := eq_true (by omega)
                (try rw [show ((0 : Int)).toNat = 0 from rfl] at hx222_0)
                (try rw [Addr.add_zero'] at hx222_0)
                (try replace hx222_0 := zh hx222_0)
                replace p222 := eq_true p222
                replace q222 := eq_true q222
                have p223 : 0 ≤ (1 : Int) := (by omega)
                have q223 : 1 < (l1.length : Int) := zd
                obtain ⟨ad223, e223, hx223_0⟩ := Kd.qCF HR1.out 1 p223 q223
                have hw223_0 := hx223_0
                (try rw [show ((1 : Int)).toNat = 1 from rfl] at hw223_0)
                (try simp only [Nat.reduceMul, Nat.reduceEqDiff, Go.Addr.add, ↓reduceIte] at hw223_0)
                obtain rfl : ad222 = ad223 := (by injection e223)
                (try simp only [show (1 : Int).toNat = 1 from rfl, Nat.reduceMul, Nat.reduceEqDiff, Go.Addr.add, ↓reduceIte] at hx223_0)
                have qi223 : (1 < l1.length) = True := eq_true (by omega)
                (try replace hx223_0 := zh hx223_0)
                replace p223 := eq_true p223
                replace q223 := eq_true q223
                refine qEJ (n := 12) (S := fun w' => w'.cell? ad222 = some (.int .i64 (rd l1 0)) ∧ w'.cell? ⟨ad222.block, ad222.off + 1, none⟩ = some (.int .i64 (rd l1 1))) (ds := []) (bs 12 0) (by kernel_rfl) rfl rfl ⟨(zh hw222_0), (zh hw223_0)⟩ (fun hHeld => ?_); refine qD7 qA7.tab18 qA7.bits18 (fun HT_ HW_ => ?_)
                generalize wc.drew = w62 at BK197 BK198 HB hx222_0 hx223_0 hHeld ⊢
                refine qBP (i := 0) (N := some 79) (bs 12 1) ?_
                refine qBP (i := 1) (N := some 80) (bs 12 3) ?_
                refine qBP (i := 3) (N := some 82) (bs 12 11) ?_
                refine qBP (i := 4) (N := some 83) (bs 12 27) ?_
                refine qE7 (i := 2) (N := some 81) (bs 12 31) ?_
                refine qE7 (i := 5) (N := some 84) (bs 12 63) ?_
                refine one_ (i := 6) (N := some 85) (bs 12 127) rfl rfl (qDL HT_.out (by kernel_rfl)) (by decide) (fun K hK => ?_)
                refine qF8 Try.func71 (by kernel_rfl) rfl #[.int .i64 (rd l1 0), .int .i64 (rd l1 1)] (by rfl) rfl rfl (by (try simp only [List.map_toArray, List.map_cons, List.map_nil]); first | done | rfl | (simp only [List.length_drop, List.length_take]; rfl)) ?_
                with_reducible refine (qCN.calls (rd l1 0) (rd l1 1) t224 false _ A59.out).mono ?_
                rintro e w' ⟨rfl, ⟨nd, rfl⟩⟩
                refine ⟨_, rfl, ?_⟩
                refine hK.out _ _ ⟨(zh hw222_0), (zh hw223_0)⟩ (fun hHeld => ?_)
                clear hK K
                refine qF1 ?_
                refine qBP (i := 7) (N := some 78) (bs 12 255) ?_
                refine qBP (i := 8) (N := some 86) (bs 12 511) ?_
                refine qBP (i := 9) (N := some 87) (bs 12 1023) ?_
                refine qBP (i := 10) (N := some 12) (bs 12 2047) ?_
                refine qBP (i := 11) (N := some 13) (bs 12 4095) ?_
                refine done_ (qCP HT_.out (by kernel_rfl)) ?_
                try go_wp2
                go_ret2
                exact ⟨zf, zb⟩
              ·rw [if_neg c58] at H
               exact absurd H (by simp)
             ·rw [if_neg c57] at H
              exact absurd H (by simp)
            ·replace c56 := Bool.eq_false_iff.mpr c56
             subst c56
             rw [if_neg (show ¬ (false = true) by decide)] at H
             have HC63 := qA0.mk H
             clear H
             go_upto_if 94 with (fail)
             go_cut [94] (fun v94 wc => ∃ (kq : Nat) (x94_62 : Bool), v94 = .bool x94_62 ∧ qA0 (qA7.j3 kq l1 a0_0 x94_62 a0_0 l0_1 a0_2 a0_3 a0_4 a2_0 a2_1 a2_2 a2_3 l2_4 = some (r1, r2)) ∧ qA0 (kq ≤ kj53) ∧ qA0 (wc.heap[gb197]? = some (.cells #[.int .i64 a0_0, (.slice A0_1 l0_1.length c0_1), .int .i64 a0_2, .int .i64 a0_3, .string a0_4] 80 (0, 0))) ∧ qA0 (wc.heap[gb198]? = some (.cells #[.string a2_0, .int .i64 a2_1, .int .i64 a2_2, .bool a2_3, (.slice A2_4 l2_4.length c2_4)] 69 (0, 0))) ∧ qA0 (Below w.heap.size w wc))
             case first =>
              have H := HC63.out
              clear HC63
              by_cases c64 : a0_0 = 10
              ·rw [if_pos c64] at H
               have ⟨c64b0, c64b1⟩ := ze c64
               clear c64
               (first | rw [c64b0] | (simp only [qCE, qCJ]; rw [c64b0]) | skip)
               have H' := qA0.mk H
               clear H
               go_wp2
               go_meet
               case rel => exact ⟨_, ((a0_0 == 10)), zs, H', ⟨by have := HJ18.out; have := HJ44.out; have := HJ53.out; first | omega | exact Nat.le_refl _⟩, ⟨zk BK197⟩, ⟨zk BK198⟩, ⟨zb⟩⟩
              ·rw [if_neg c64] at H
               have ⟨c64b0, c64b1⟩ := zn c64
               (first | rw [c64b0] | (simp only [qCE, qCJ]; rw [c64b0]) | skip)
               have H' := qA0.mk H
               clear H
               go_wp2
               go_meet
               case rel => exact ⟨_, ((a0_0 == 11)), zs, H', ⟨by have := HJ18.out; have := HJ44.out; have := HJ53.out; first | omega | exact Nat.le_refl _⟩, ⟨zk BK197⟩, ⟨zk BK198⟩, ⟨zb⟩⟩
             case rest =>
              clear HC63
              obtain ⟨kq, x94_62, rfl, HA, HJ62, BK197, BK198, HB⟩ := hcut
              cases kq with
              | zero => exact absurd HA.out (by simp [qA7.j3])
              | succ kj62 =>
               have H := HA.out
               clear HA
               simp only [qA7.j3] at H
               by_cases c65 : x94_62 = true
               ·subst c65
                rw [if_pos rfl] at H
                by_cases c66 : 0 < (l1.length : Int)
                ·rw [if_pos c66] at H
                 have c66b0 := decide_eq_true c66
                 have c66b1 : decide (0 < l1.length) = true := decide_eq_true (by omega)
                 clear c66
                 by_cases c67 : 1 < (l1.length : Int)
                 ·rw [if_pos c67] at H
                  have c67b0 := decide_eq_true c67
                  have c67b1 : decide (1 < l1.length) = true := decide_eq_true (by omega)
                  clear c67
                  replace H := Option.bind_eq_some_iff.mp H
                  obtain ⟨⟨t228, t229⟩, A680, H⟩ := H
                  replace H : (some (t228, t229)) = some (r1, r2) := H
                  have A68 := qA0.mk A680
                  clear A680
                  simp only [Option.some.injEq, Prod.mk.injEq] at H
                  obtain ⟨rfl, rfl⟩ := H
                  try go_wp2
                  replace BK197 := qA0.mk (qBX BK197.out)
                  replace BK198 := qA0.mk (qBX BK198.out)
                  replace HB := qA0.mk (qBO HB.out)
                  have p226 : 0 ≤ (0 : Int) := (by omega)
                  have q226 : 0 < (l1.length : Int) := zd
                  obtain ⟨ad226, e226, hx226_0⟩ := Kd.qCF HR1.out 0 p226 q226
                  have hw226_0 := hx226_0
                  (try rw [show ((0 : Int)).toNat = 0 from rfl] at hw226_0)
                  (try rw [Addr.add_zero'] at hw226_0)
                  cases e226
                  have qi226 : (0 < l1.length) = True := eq_true (by omega)
                  (try rw [show ((0 : Int)).toNat = 0 from rfl] at hx226_0)
                  (try rw [Addr.add_zero'] at hx226_0)
                  (try replace hx226_0 := zh hx226_0)
                  replace p226 := eq_true p226
                  replace q226 := eq_true q226
                  have p227 : 0 ≤ (1 : Int) := (by omega)
                  have q227 : 1 < (l1.length : Int) := zd
                  obtain ⟨ad227, e227, hx227_0⟩ := Kd.qCF HR1.out 1 p227 q227
                  have hw227_0 := hx227_0
                  (try rw [show ((1 : Int)).toNat = 1 from rfl] at hw227_0)
                  (try simp only [Nat.reduceMul, Nat.reduceEqDiff, Go.Addr.add, ↓reduceIte] at hw227_0)
                  obtain rfl : ad226 = ad227 := (by injection e227)
                  (try simp only [show (1 : Int).toNat = 1 from rfl, Nat.reduceMul, Nat.reduceEqDiff, Go.Addr.add, ↓reduceIte] at hx227_0)
                  have qi227 : (1 < l1.length) = True := eq_true (by omega)
                  (try replace hx227_0 := zh hx227_0)
                  replace p227 := eq_true p227
                  replace q227 := eq_true q227
                  refine qEJ (n := 13) (S := fun w' => w'.cell? ⟨gb197, 0, none⟩ = some (.int .i64 a0_0) ∧ w'.cell? ⟨gb197, 1, none⟩ = some (.slice A0_1 l0_1.length c0_1) ∧ w'.cell? ⟨gb197, 2, none⟩ = some (.int .i64 a0_2) ∧ w'.cell? ⟨gb197, 3, none⟩ = some (.int .i64 a0_3) ∧ w'.cell? ⟨gb197, 4, none⟩ = some (.string a0_4) ∧ w'.cell? ad226 = some (.int .i64 (rd l1 0)) ∧ w'.cell? ⟨ad226.block, ad226.off + 1, none⟩ = some (.int .i64 (rd l1 1))) (ds := []) (bs 13 0) (by kernel_rfl) rfl rfl ⟨(qA4 BK197.out 0).trans rfl, (qA4 BK197.out 1).trans rfl, (qA4 BK197.out 2).trans rfl, (qA4 BK197.out 3).trans rfl, (qA4 BK197.out 4).trans rfl, (zh hw226_0), (zh hw227_0)⟩ (fun hHeld => ?_); refine qD7 qA7.tab22 qA7.bits22 (fun HT_ HW_ => ?_)
                  generalize wc.drew = w69 at BK197 BK198 HB hx226_0 hx227_0 hHeld ⊢
                  refine qBP (i := 0) (N := some 97) (bs 13 1) ?_
                  refine qBP (i := 2) (N := some 99) (bs 13 5) ?_
                  refine qBP (i := 3) (N := some 100) (bs 13 13) ?_
                  refine qBP (i := 5) (N := some 102) (bs 13 45) ?_
                  refine qBP (i := 6) (N := some 103) (bs 13 109) ?_
                  refine qE7 (i := 1) (N := some 98) (bs 13 111) ?_
                  refine qE7 (i := 4) (N := some 101) (bs 13 127) ?_
                  refine qE7 (i := 7) (N := some 104) (bs 13 255) ?_
                  refine one_ (i := 8) (N := some 105) (bs 13 511) rfl rfl (qDL HT_.out (by kernel_rfl)) (by decide) (fun K hK => ?_)
                  refine qF8 Try.func72 (by kernel_rfl) rfl #[.int .i64 a0_0, .int .i64 (rd l1 0), .int .i64 (rd l1 1)] (by rfl) rfl rfl (by (try simp only [List.map_toArray, List.map_cons, List.map_nil]); first | done | rfl | (simp only [List.length_drop, List.length_take]; rfl)) ?_
                  with_reducible refine (qAW.calls kj62 a0_0 (rd l1 0) (rd l1 1) t228 t229 _ A68.out).mono ?_
                  rintro e w' ⟨rfl, ⟨nd, rfl⟩⟩
                  refine ⟨_, rfl, ?_⟩
                  refine hK.out _ _ ⟨(qA4 BK197.out 0).trans rfl, (qA4 BK197.out 1).trans rfl, (qA4 BK197.out 2).trans rfl, (qA4 BK197.out 3).trans rfl, (qA4 BK197.out 4).trans rfl, (zh hw226_0), (zh hw227_0)⟩ (fun hHeld => ?_)
                  clear hK K
                  refine qF1 ?_
                  refine qBP (i := 9) (N := some 106) (bs 13 1023) ?_
                  refine qBP (i := 10) (N := some 107) (bs 13 2047) ?_
                  refine qBP (i := 11) (N := some 6) (bs 13 4095) ?_
                  refine qBP (i := 12) (N := some 7) (bs 13 8191) ?_
                  refine done_ (qCP HT_.out (by kernel_rfl)) ?_
                  try go_wp2
                  go_ret2
                  exact ⟨zf, zb⟩
                 ·rw [if_neg c67] at H
                  exact absurd H (by simp)
                ·rw [if_neg c66] at H
                 exact absurd H (by simp)
               ·replace c65 := Bool.eq_false_iff.mpr c65
                subst c65
                rw [if_neg (show ¬ (false = true) by decide)] at H
                by_cases c70 : a0_0 = 12
                ·rw [if_pos c70] at H
                 have ⟨c70b0, c70b1⟩ := ze c70
                 clear c70
                 by_cases c71 : 0 < (l1.length : Int)
                 ·rw [if_pos c71] at H
                  have c71b0 := decide_eq_true c71
                  have c71b1 : decide (0 < l1.length) = true := decide_eq_true (by omega)
                  clear c71
                  by_cases c72 : 1 < (l1.length : Int)
                  ·rw [if_pos c72] at H
                   have c72b0 := decide_eq_true c72
                   have c72b1 : decide (1 < l1.length) = true := decide_eq_true (by omega)
                   clear c72
                   replace H := Option.bind_eq_some_iff.mp H
                   obtain ⟨⟨t232, t233⟩, A730, H⟩ := H
                   replace H : (some (t232, t233)) = some (r1, r2) := H
                   have A73 := qA0.mk A730
                   clear A730
                   simp only [Option.some.injEq, Prod.mk.injEq] at H
                   obtain ⟨rfl, rfl⟩ := H
                   try go_wp2
                   replace BK197 := qA0.mk (qBX BK197.out)
                   replace BK198 := qA0.mk (qBX BK198.out)
                   replace HB := qA0.mk (qBO HB.out)
                   have p230 : 0 ≤ (0 : Int) := (by omega)
                   have q230 : 0 < (l1.length : Int) := zd
                   obtain ⟨ad230, e230, hx230_0⟩ := Kd.qCF HR1.out 0 p230 q230
                   have hw230_0 := hx230_0
                   (try rw [show ((0 : Int)).toNat = 0 from rfl] at hw230_0)
                   (try rw [Addr.add_zero'] at hw230_0)
                   cases e230
                   have qi230 : (0 < l1.length) = True := eq_true (by omega)
                   (try rw [show ((0 : Int)).toNat = 0 from rfl] at hx230_0)
                   (try rw [Addr.add_zero'] at hx230_0)
                   (try replace hx230_0 := zh hx230_0)
                   replace p230 := eq_true p230
                   replace q230 := eq_true q230
                   have p231 : 0 ≤ (1 : Int) := (by omega)
                   have q231 : 1 < (l1.length : Int) := zd
                   obtain ⟨ad231, e231, hx231_0⟩ := Kd.qCF HR1.out 1 p231 q231
                   have hw231_0 := hx231_0
                   (try rw [show ((1 : Int)).toNat = 1 from rfl] at hw231_0)
                   (try simp only [Nat.reduceMul, Nat.reduceEqDiff, Go.Addr.add, ↓reduceIte] at hw231_0)
                   obtain rfl : ad230 = ad231 := (by injection e231)
                   (try simp only [show (1 : Int).toNat = 1 from rfl, Nat.reduceMul, Nat.reduceEqDiff, Go.Addr.add, ↓reduceIte] at hx231_0)
                   have qi231 : (1 < l1.length) = True := eq_true (by omega)
                   (try replace hx231_0 := zh hx231_0)
                   replace p231 := eq_true p231
                   replace q231 := eq_true q231
                   refine qEJ (n := 11) (S := fun w' => w'.cell? ad230 = some (.int .i64 (rd l1 0)) ∧ w'.cell? ⟨ad230.block, ad230.off + 1, none⟩ = some (.int .i64 (rd l1 1))) (ds := []) (bs 11 0) (by kernel_rfl) rfl rfl ⟨(zh hw230_0), (zh hw231_0)⟩ (fun hHeld => ?_); refine qD7 qA7.tab24 qA7.bits24 (fun HT_ HW_ => ?_)
                   generalize wc.drew = w74 at BK197 BK198 HB hx230_0 hx231_0 hHeld ⊢
                   refine qBP (i := 0) (N := some 110) (bs 11 1) ?_
                   refine qBP (i := 1) (N := some 111) (bs 11 3) ?_
                   refine qBP (i := 3) (N := some 113) (bs 11 11) ?_
                   refine qBP (i := 4) (N := some 114) (bs 11 27) ?_
                   refine qE7 (i := 2) (N := some 112) (bs 11 31) ?_
                   refine qE7 (i := 5) (N := some 115) (bs 11 63) ?_
                   refine one_ (i := 6) (N := some 116) (bs 11 127) rfl rfl (qDL HT_.out (by kernel_rfl)) (by decide) (fun K hK => ?_)
                   refine qF8 Try.func73 (by kernel_rfl) rfl #[.int .i64 (rd l1 0), .int .i64 (rd l1 1)] (by rfl) rfl rfl (by (try simp only [List.map_toArray, List.map_cons, List.map_nil]); first | done | rfl | (simp only [List.length_drop, List.length_take]; rfl)) ?_
                   with_reducible refine (qAK.calls kj62 (rd l1 0) (rd l1 1) t232 t233 _ A73.out).mono ?_
                   rintro e w75 ⟨rfl, hb⟩
                   refine ⟨_, rfl, ?_⟩
                   replace BK197 := qA0.mk (qA5 (zk BK197) hb)
                   replace BK198 := qA0.mk (qA5 (zk BK198) hb)
                   replace HB := qA0.mk (qA1 zb hb)
                   (try clear hb)
                   (try clear hb2)
                   (try clear hk)
                   (try clear hi)
                   refine hK.out _ _ ⟨(zh hw230_0), (zh hw231_0)⟩ (fun hHeld => ?_)
                   clear hK K
                   refine qF1 ?_
                   refine qBP (i := 7) (N := some 117) (bs 11 255) ?_
                   refine qBP (i := 8) (N := some 118) (bs 11 511) ?_
                   refine qBP (i := 9) (N := some 6) (bs 11 1023) ?_
                   refine qBP (i := 10) (N := some 7) (bs 11 2047) ?_
                   refine done_ (qCP HT_.out (by kernel_rfl)) ?_
                   try go_wp2
                   go_ret2
                   exact ⟨zf, zb⟩
                  ·rw [if_neg c72] at H
                   exact absurd H (by simp)
                 ·rw [if_neg c71] at H
                  exact absurd H (by simp)
                ·rw [if_neg c70] at H
                 have ⟨c70b0, c70b1⟩ := zn c70
                 by_cases c76 : a0_0 = 15
                 ·rw [if_pos c76] at H
                  have ⟨c76b0, c76b1⟩ := ze c76
                  clear c76
                  by_cases c77 : 1 < (l1.length : Int)
                  ·rw [if_pos c77] at H
                   have c77b0 := decide_eq_true c77
                   have c77b1 : decide (1 < l1.length) = true := decide_eq_true (by omega)
                   clear c77
                   by_cases c78 : 2 < (l1.length : Int)
                   ·rw [if_pos c78] at H
                    have c78b0 := decide_eq_true c78
                    have c78b1 : decide (2 < l1.length) = true := decide_eq_true (by omega)
                    clear c78
                    replace H := Option.bind_eq_some_iff.mp H
                    obtain ⟨⟨t236, t237⟩, A790, H⟩ := H
                    replace H : (if t237 = true then (if 0 < (l1.length : Int) then ((qAA.f kj62 (rd l1 0) (([1] : List Int))).bind fun t242 => (some (t236, t242))) else (none)) else (some (t236, false))) = some (r1, r2) := H
                    have A79 := qA0.mk A790
                    clear A790
                    by_cases c80 : t237 = true
                    ·subst c80
                     rw [if_pos rfl] at H
                     by_cases c81 : 0 < (l1.length : Int)
                     ·rw [if_pos c81] at H
                      have c81b0 := decide_eq_true c81
                      have c81b1 : decide (0 < l1.length) = true := decide_eq_true (by omega)
                      clear c81
                      obtain ⟨y239, hy_⟩ : ∃ y_ : List Int, y_ = (([1] : List Int)) := ⟨_, rfl⟩
                      replace H : ((qAA.f kj62 (rd l1 0) y239).bind fun t242 => (some (t236, t242))) = some (r1, r2) := zr
                      have Ny239 := qA0.mk hy_
                      clear hy_
                      replace H := Option.bind_eq_some_iff.mp H
                      obtain ⟨t242, A820, H⟩ := H
                      have A82 := qA0.mk A820
                      clear A820
                      simp only [Option.some.injEq, Prod.mk.injEq] at H
                      obtain ⟨rfl, rfl⟩ := H
                      try go_wp2
                      replace BK197 := qA0.mk (qBX BK197.out)
                      replace BK198 := qA0.mk (qBX BK198.out)
                      replace HB := qA0.mk (qBO HB.out)
                      have p234 : 0 ≤ (1 : Int) := (by omega)
                      have q234 : 1 < (l1.length : Int) := zd
                      obtain ⟨ad234, e234, hx234_0⟩ := Kd.qCF HR1.out 1 p234 q234
                      have hw234_0 := hx234_0
                      (try rw [show ((1 : Int)).toNat = 1 from rfl] at hw234_0)
                      (try simp only [Nat.reduceMul, Nat.reduceEqDiff, Go.Addr.add, ↓reduceIte] at hw234_0)
                      cases e234
                      (try simp only [show (1 : Int).toNat = 1 from rfl, Nat.reduceMul, Nat.reduceEqDiff, Go.Addr.add, ↓reduceIte] at hx234_0)
                      have qi234 : (1 < l1.length) = True := eq_true (by omega)
                      (try replace hx234_0 := zh hx234_0)
                      replace p234 := eq_true p234
                      replace q234 := eq_true q234
                      have p235 : 0 ≤ (2 : Int) := (by omega)
                      have q235 : 2 < (l1.length : Int) := zd
                      obtain ⟨ad235, e235, hx235_0⟩ := Kd.qCF HR1.out 2 p235 q235
                      have hw235_0 := hx235_0
                      (try rw [show ((2 : Int)).toNat = 2 from rfl] at hw235_0)
                      (try simp only [Nat.reduceMul, Nat.reduceEqDiff, Go.Addr.add, ↓reduceIte] at hw235_0)
                      obtain rfl : ad234 = ad235 := (by injection e235)
                      (try simp only [show (2 : Int).toNat = 2 from rfl, Nat.reduceMul, Nat.reduceEqDiff, Go.Addr.add, ↓reduceIte] at hx235_0)
                      have qi235 : (2 < l1.length) = True := eq_true (by omega)
                      (try replace hx235_0 := zh hx235_0)
                      replace p235 := eq_true p235
                      replace q235 := eq_true q235
                      refine qEJ (n := 12) (S := fun w' => w'.cell? ⟨ad234.block, ad234.off + 1, none⟩ = some (.int .i64 (rd l1 1)) ∧ w'.cell? ⟨ad234.block, ad234.off + 2, none⟩ = some (.int .i64 (rd l1 2))) (ds := []) (bs 12 0) (by kernel_rfl) rfl rfl ⟨(zh hw234_0), (zh hw235_0)⟩ (fun hHeld => ?_); refine qD7 qA7.tab26 qA7.bits26 (fun HT_ HW_ => ?_)
                      generalize wc.drew = w83 at BK197 BK198 HB hx234_0 hx235_0 hHeld ⊢
                      refine qBP (i := 0) (N := some 122) (bs 12 1) ?_
                      refine qBP (i := 1) (N := some 123) (bs 12 3) ?_
                      refine qBP (i := 3) (N := some 125) (bs 12 11) ?_
                      refine qBP (i := 4) (N := some 126) (bs 12 27) ?_
                      refine qE7 (i := 2) (N := some 124) (bs 12 31) ?_
                      refine qE7 (i := 5) (N := some 127) (bs 12 63) ?_
                      refine one_ (i := 6) (N := some 128) (bs 12 127) rfl rfl (qDL HT_.out (by kernel_rfl)) (by decide) (fun K hK => ?_)
                      refine qF8 Try.func71 (by kernel_rfl) rfl #[.int .i64 (rd l1 1), .int .i64 (rd l1 2)] (by rfl) rfl rfl (by (try simp only [List.map_toArray, List.map_cons, List.map_nil]); first | done | rfl | (simp only [List.length_drop, List.length_take]; rfl)) ?_
                      with_reducible refine (qCN.calls (rd l1 1) (rd l1 2) t236 true _ A79.out).mono ?_
                      rintro e w' ⟨rfl, ⟨nd, rfl⟩⟩
                      refine ⟨_, rfl, ?_⟩
                      refine hK.out _ _ ⟨(zh hw234_0), (zh hw235_0)⟩ (fun hHeld => ?_)
                      clear hK K
                      refine qF1 ?_
                      refine qBP (i := 7) (N := some 121) (bs 12 255) ?_
                      refine qBP (i := 8) (N := some 129) (bs 12 511) ?_
                      refine qBP (i := 9) (N := some 130) (bs 12 1023) ?_
                      refine qBP (i := 10) (N := some 14) (bs 12 2047) ?_
                      refine qBP (i := 11) (N := some 15) (bs 12 4095) ?_
                      refine done_ (qCP HT_.out (by kernel_rfl)) ?_
                      have p238 : 0 ≤ (0 : Int) := (by omega)
                      have q238 : 0 < (l1.length : Int) := zd
                      obtain ⟨ad238, e238, hx238_0⟩ := Kd.qCF HR1.out 0 p238 q238
                      obtain rfl : ad234 = ad238 := (by injection e238)
                      have qi238 : (0 < l1.length) = True := eq_true (by omega)
                      (try rw [show ((0 : Int)).toNat = 0 from rfl] at hx238_0)
                      (try rw [Addr.add_zero'] at hx238_0)
                      (try replace hx238_0 := zh hx238_0)
                      replace p238 := eq_true p238
                      replace q238 := eq_true q238
                      try go_wp2_with (first | ((with_reducible refine qAC (N := 137) rfl ?_); (try (refine qC5 (by rfl) ?_; dsimp only)); refine Kd.qF5 (Kd.int .i64) _ 3 ?hg (N := 137) ?hd (xs := ([1] : List Int)) (inner := [.int .i64 1]) (ok := fun _ => True) (okp := fun _ => True) ?hr ?hp (fun _ hk => hk) trivial (Below.refl _ _) (Nat.le_refl _) (by simp) ?_; (case hd => rfl); (case hg => rfl); (case hr => first | (go_simp; done) | (go_simp; rfl)); (case hp => exact (Reps.one (show Kd.M (Kd.int .i64) _ _ _ 1 [.int .i64 1] from rfl) (Reps.none _ _))); intro v240 w84 ho85 hb hg_ hnew_; clear hg_ hnew_; (first | rw [← Ny239.out] at ho85 | (simp only [Int.reduceToNat] at ho85; rw [← Ny239.out] at ho85)); have HO241 := qA0.mk (Kd.qC9 ho85 (qAM zb)); replace BK197 := qA0.mk (qA5 (zk BK197) hb); replace BK198 := qA0.mk (qA5 (zk BK198) hb); replace HB := qA0.mk (qA1 zb hb); clear hb ho85; obtain ⟨Ao86, co86, eo86⟩ := Kd.qBW HO241.out; subst eo86) | (go_at_call 70; (with_reducible refine (qAA.calls kj62 (rd l1 0) _ _ y239 t242 _ ?side1 ?side2 A82.out).mono ?_); (case side1 => repeat (first | exact (Kd.qAU HO241.out).2.2 | refine sC ?_)); (case side2 => exact (Kd.qAU HO241.out).2.1); rintro e w' ⟨rfl, ⟨nd, rfl⟩⟩))
                      go_ret2
                      exact ⟨zf, zb⟩
                     ·rw [if_neg c81] at H
                      exact absurd H (by simp)
                    ·replace c80 := Bool.eq_false_iff.mpr c80
                     subst c80
                     rw [if_neg (show ¬ (false = true) by decide)] at H
                     simp only [Option.some.injEq, Prod.mk.injEq] at H
                     obtain ⟨rfl, rfl⟩ := H
                     try go_wp2
                     replace BK197 := qA0.mk (qBX BK197.out)
                     replace BK198 := qA0.mk (qBX BK198.out)
                     replace HB := qA0.mk (qBO HB.out)
                     have p234 : 0 ≤ (1 : Int) := (by omega)
                     have q234 : 1 < (l1.length : Int) := zd
                     obtain ⟨ad234, e234, hx234_0⟩ := Kd.qCF HR1.out 1 p234 q234
                     have hw234_0 := hx234_0
                     (try rw [show ((1 : Int)).toNat = 1 from rfl] at hw234_0)
                     (try simp only [Nat.reduceMul, Nat.reduceEqDiff, Go.Addr.add, ↓reduceIte] at hw234_0)
                     cases e234
                     (try simp only [show (1 : Int).toNat = 1 from rfl, Nat.reduceMul, Nat.reduceEqDiff, Go.Addr.add, ↓reduceIte] at hx234_0)
                     have qi234 : (1 < l1.length) = True := eq_true (by omega)
                     (try replace hx234_0 := zh hx234_0)
                     replace p234 := eq_true p234
                     replace q234 := eq_true q234
                     have p235 : 0 ≤ (2 : Int) := (by omega)
                     have q235 : 2 < (l1.length : Int) := zd
                     obtain ⟨ad235, e235, hx235_0⟩ := Kd.qCF HR1.out 2 p235 q235
                     have hw235_0 := hx235_0
                     (try rw [show ((2 : Int)).toNat = 2 from rfl] at hw235_0)
                     (try simp only [Nat.reduceMul, Nat.reduceEqDiff, Go.Addr.add, ↓reduceIte] at hw235_0)
                     obtain rfl : ad234 = ad235 := (by injection e235)
                     (try simp only [show (2 : Int).toNat = 2 from rfl, Nat.reduceMul, Nat.reduceEqDiff, Go.Addr.add, ↓reduceIte] at hx235_0)
                     have qi235 : (2 < l1.length) = True := eq_true (by omega)
                     (try replace hx235_0 := zh hx235_0)
                     replace p235 := eq_true p235
                     replace q235 := eq_true q235
                     refine qEJ (n := 12) (S := fun w' => w'.cell? ⟨ad234.block, ad234.off + 1, none⟩ = some (.int .i64 (rd l1 1)) ∧ w'.cell? ⟨ad234.block, ad234.off + 2, none⟩ = some (.int .i64 (rd l1 2))) (ds := []) (bs 12 0) (by kernel_rfl) rfl rfl ⟨(zh hw234_0), (zh hw235_0)⟩ (fun hHeld => ?_); refine qD7 qA7.tab26 qA7.bits26 (fun HT_ HW_ => ?_)
                     generalize wc.drew = w87 at BK197 BK198 HB hx234_0 hx235_0 hHeld ⊢
                     refine qBP (i := 0) (N := some 122) (bs 12 1) ?_
                     refine qBP (i := 1) (N := some 123) (bs 12 3) ?_
                     refine qBP (i := 3) (N := some 125) (bs 12 11) ?_
                     refine qBP (i := 4) (N := some 126) (bs 12 27) ?_
                     refine qE7 (i := 2) (N := some 124) (bs 12 31) ?_
                     refine qE7 (i := 5) (N := some 127) (bs 12 63) ?_
                     refine one_ (i := 6) (N := some 128) (bs 12 127) rfl rfl (qDL HT_.out (by kernel_rfl)) (by decide) (fun K hK => ?_)
                     refine qF8 Try.func71 (by kernel_rfl) rfl #[.int .i64 (rd l1 1), .int .i64 (rd l1 2)] (by rfl) rfl rfl (by (try simp only [List.map_toArray, List.map_cons, List.map_nil]); first | done | rfl | (simp only [List.length_drop, List.length_take]; rfl)) ?_
                     with_reducible refine (qCN.calls (rd l1 1) (rd l1 2) t236 false _ A79.out).mono ?_
                     rintro e w' ⟨rfl, ⟨nd, rfl⟩⟩
                     refine ⟨_, rfl, ?_⟩
                     refine hK.out _ _ ⟨(zh hw234_0), (zh hw235_0)⟩ (fun hHeld => ?_)
                     clear hK K
                     refine qF1 ?_
                     refine qBP (i := 7) (N := some 121) (bs 12 255) ?_
                     refine qBP (i := 8) (N := some 129) (bs 12 511) ?_
                     refine qBP (i := 9) (N := some 130) (bs 12 1023) ?_
                     refine qBP (i := 10) (N := some 14) (bs 12 2047) ?_
                     refine qBP (i := 11) (N := some 15) (bs 12 4095) ?_
                     refine done_ (qCP HT_.out (by kernel_rfl)) ?_
                     try go_wp2
                     go_ret2
                     exact ⟨zf, zb⟩
                   ·rw [if_neg c78] at H
                    exact absurd H (by simp)
                  ·rw [if_neg c77] at H
                   exact absurd H (by simp)
                 ·rw [if_neg c76] at H
                  have ⟨c76b0, c76b1⟩ := zn c76
                  by_cases c88 : a0_0 = 16
                  ·rw [if_pos c88] at H
                   have ⟨c88b0, c88b1⟩ := ze c88
                   clear c88
                   by_cases c89 : 0 < (l1.length : Int)
                   ·rw [if_pos c89] at H
                    have c89b0 := decide_eq_true c89
                    have c89b1 : decide (0 < l1.length) = true := decide_eq_true (by omega)
                    clear c89
                    obtain ⟨y244, hy_⟩ : ∃ y_ : List Int, y_ = (([a2_1] : List Int)) := ⟨_, rfl⟩
                    replace H : ((qAA.f kj62 (rd l1 0) y244).bind fun t247 => (some (a2_2, t247))) = some (r1, r2) := zr
                    have Ny244 := qA0.mk hy_
                    clear hy_
                    replace H := Option.bind_eq_some_iff.mp H
                    obtain ⟨t247, A900, H⟩ := H
                    have A90 := qA0.mk A900
                    clear A900
                    simp only [Option.some.injEq, Prod.mk.injEq] at H
                    obtain ⟨rfl, rfl⟩ := H
                    try go_wp2
                    replace BK197 := qA0.mk (qBX BK197.out)
                    replace BK198 := qA0.mk (qBX BK198.out)
                    replace HB := qA0.mk (qBO HB.out)
                    have p243 : 0 ≤ (0 : Int) := (by omega)
                    have q243 : 0 < (l1.length : Int) := zd
                    obtain ⟨ad243, e243, hx243_0⟩ := Kd.qCF HR1.out 0 p243 q243
                    have hw243_0 := hx243_0
                    (try rw [show ((0 : Int)).toNat = 0 from rfl] at hw243_0)
                    (try rw [Addr.add_zero'] at hw243_0)
                    cases e243
                    have qi243 : (0 < l1.length) = True := eq_true (by omega)
                    (try rw [show ((0 : Int)).toNat = 0 from rfl] at hx243_0)
                    (try rw [Addr.add_zero'] at hx243_0)
                    (try replace hx243_0 := zh hx243_0)
                    replace p243 := eq_true p243
                    replace q243 := eq_true q243
                    refine qEJ (n := 11) (S := fun w' => w'.cell? ⟨gb198, 0, none⟩ = some (.string a2_0) ∧ w'.cell? ⟨gb198, 1, none⟩ = some (.int .i64 a2_1) ∧ w'.cell? ⟨gb198, 2, none⟩ = some (.int .i64 a2_2) ∧ w'.cell? ⟨gb198, 3, none⟩ = some (.bool a2_3) ∧ w'.cell? ⟨gb198, 4, none⟩ = some (.slice A2_4 l2_4.length c2_4) ∧ w'.cell? ad243 = some (.int .i64 (rd l1 0))) (ds := []) (bs 11 0) (by kernel_rfl) rfl rfl ⟨(qA4 BK198.out 0).trans rfl, (qA4 BK198.out 1).trans rfl, (qA4 BK198.out 2).trans rfl, (qA4 BK198.out 3).trans rfl, (qA4 BK198.out 4).trans rfl, (zh hw243_0)⟩ (fun hHeld => ?_); refine qD7 qA7.tab29 qA7.bits29 (fun HT_ HW_ => ?_)
                    generalize wc.drew = w91 at BK197 BK198 HB hx243_0 hHeld ⊢
                    refine qBP (i := 0) (N := some 142) (bs 11 1) ?_
                    refine qBP (i := 2) (N := some 144) (bs 11 5) ?_
                    refine qBP (i := 3) (N := some 145) (bs 11 13) ?_
                    refine qBP (i := 5) (N := some 147) (bs 11 45) ?_
                    refine qE7 (i := 1) (N := some 143) (bs 11 47) ?_
                    refine qE7 (i := 4) (N := some 146) (bs 11 63) ?_
                    refine qE7 (i := 6) (N := some 148) (bs 11 127) ?_
                    refine one_ (i := 7) (N := some 149) (bs 11 255) rfl rfl (qDL HT_.out (by kernel_rfl)) (by decide) (fun K hK => ?_)
                    refine Kd.R_lit_step (Kd.int .i64) _ 3 ?hg (N := 149) ?hd (xs := ([a2_1] : List Int)) (inner := [.int .i64 a2_1]) (ok := fun _ => True) (okp := fun _ => True) ?hr ?hp (fun _ hk => hk) trivial (Below.refl _ _) (Nat.le_refl _) (by simp) ?_; (case hd => rfl); (case hg => rfl); (case hr => first | (go_simp; done) | (go_simp; rfl)); (case hp => exact (Reps.one (show Kd.M (Kd.int .i64) _ _ _ a2_1 [.int .i64 a2_1] from rfl) (Reps.none _ _)))
                    intro v245 w92 ho93 hb hg_ hnew_
                    clear hg_ hnew_
                    (first | rw [← Ny244.out] at ho93 | (simp only [Int.reduceToNat] at ho93; rw [← Ny244.out] at ho93))
                    have HO246 := qA0.mk (Kd.qC9 ho93 (qAM zb))
                    replace BK197 := qA0.mk (qA5 (zk BK197) hb)
                    replace BK198 := qA0.mk (qA5 (zk BK198) hb)
                    replace HB := qA0.mk (qA1 zb hb)
                    clear hb ho93
                    obtain ⟨Ao94, co94, eo94⟩ := Kd.qBW HO246.out
                    (first | subst eo94 | (injection eo94 with f1_ f2_ f3_; have f4_ := f1_.symm; have f5_ := f3_.symm; clear f1_ f2_ f3_; subst f4_; subst f5_))
                    refine hK.out _ _ ⟨(qA4 BK198.out 0).trans rfl, (qA4 BK198.out 1).trans rfl, (qA4 BK198.out 2).trans rfl, (qA4 BK198.out 3).trans rfl, (qA4 BK198.out 4).trans rfl, (zh hw243_0)⟩ (fun hHeld => ?_)
                    clear hK K
                    refine qF1 ?_
                    refine one_ (i := 8) (N := some 150) (bs 11 511) rfl rfl (qDL HT_.out (by kernel_rfl)) (by decide) (fun K hK => ?_)
                    refine qF8 Try.func70 (by kernel_rfl) rfl #[.int .i64 (rd l1 0), .slice Ao94 y244.length co94] (by rfl) rfl rfl (by (try simp only [List.map_toArray, List.map_cons, List.map_nil]); first | done | rfl | (simp only [List.length_drop, List.length_take]; rfl)) ?_
                    with_reducible refine (qAA.calls kj62 (rd l1 0) _ _ y244 t247 _ ?side1 ?side2 A90.out).mono ?_
                    (case side1 => repeat (first | exact (Kd.qAU HO246.out).2.2 | refine sC ?_))
                    (case side2 => exact (Kd.qAU HO246.out).2.1)
                    rintro e w' ⟨rfl, ⟨nd, rfl⟩⟩
                    refine ⟨_, rfl, ?_⟩
                    refine hK.out _ _ ⟨(qA4 BK198.out 0).trans rfl, (qA4 BK198.out 1).trans rfl, (qA4 BK198.out 2).trans rfl, (qA4 BK198.out 3).trans rfl, (qA4 BK198.out 4).trans rfl, (zh hw243_0)⟩ (fun hHeld => ?_)
                    clear hK K
                    refine qF1 ?_
                    refine qBP (i := 9) (N := some 6) (bs 11 1023) ?_
                    refine qBP (i := 10) (N := some 7) (bs 11 2047) ?_
                    refine done_ (qCP HT_.out (by kernel_rfl)) ?_
                    try go_wp2
                    go_ret2
                    exact ⟨zf, zb⟩
                   ·rw [if_neg c89] at H
                    exact absurd H (by simp)
                  ·rw [if_neg c88] at H
                   have ⟨c88b0, c88b1⟩ := zn c88
                   by_cases c95 : a0_0 = 17
                   ·rw [if_pos c95] at H
                    have ⟨c95b0, c95b1⟩ := ze c95
                    clear c95
                    by_cases c96 : 0 < (l1.length : Int)
                    ·rw [if_pos c96] at H
                     have c96b0 := decide_eq_true c96
                     have c96b1 : decide (0 < l1.length) = true := decide_eq_true (by omega)
                     clear c96
                     obtain ⟨y249, hy_⟩ : ∃ y_ : List Int, y_ = (([2] : List Int)) := ⟨_, rfl⟩
                     replace H : ((qAA.f kj62 (rd l1 0) y249).bind fun t252 => (some (2, t252))) = some (r1, r2) := zr
                     have Ny249 := qA0.mk hy_
                     clear hy_
                     replace H := Option.bind_eq_some_iff.mp H
                     obtain ⟨t252, A970, H⟩ := H
                     have A97 := qA0.mk A970
                     clear A970
                     simp only [Option.some.injEq, Prod.mk.injEq] at H
                     obtain ⟨rfl, rfl⟩ := H
                     have p248 : 0 ≤ (0 : Int) := (by omega)
                     have q248 : 0 < (l1.length : Int) := zd
                     obtain ⟨ad248, e248, hx248_0⟩ := Kd.qCF HR1.out 0 p248 q248
                     cases e248
                     have qi248 : (0 < l1.length) = True := eq_true (by omega)
                     (try rw [show ((0 : Int)).toNat = 0 from rfl] at hx248_0)
                     (try rw [Addr.add_zero'] at hx248_0)
                     (try replace hx248_0 := zh hx248_0)
                     replace p248 := eq_true p248
                     replace q248 := eq_true q248
                     go_wp2_with (first | ((with_reducible refine qAC (N := 156) rfl ?_); (try (refine qC5 (by rfl) ?_; dsimp only)); refine Kd.qF5 (Kd.int .i64) _ 3 ?hg (N := 156) ?hd (xs := ([2] : List Int)) (inner := [.int .i64 2]) (ok := fun _ => True) (okp := fun _ => True) ?hr ?hp (fun _ hk => hk) trivial (Below.refl _ _) (Nat.le_refl _) (by simp) ?_; (case hd => rfl); (case hg => rfl); (case hr => first | (go_simp; done) | (go_simp; rfl)); (case hp => exact (Reps.one (show Kd.M (Kd.int .i64) _ _ _ 2 [.int .i64 2] from rfl) (Reps.none _ _))); intro v250 w98 ho99 hb hg_ hnew_; clear hg_ hnew_; (first | rw [← Ny249.out] at ho99 | (simp only [Int.reduceToNat] at ho99; rw [← Ny249.out] at ho99)); have HO251 := qA0.mk (Kd.qC9 ho99 (qAM zb)); replace BK197 := qA0.mk (qA5 (zk BK197) hb); replace BK198 := qA0.mk (qA5 (zk BK198) hb); replace HB := qA0.mk (qA1 zb hb); clear hb ho99; obtain ⟨Ao100, co100, eo100⟩ := Kd.qBW HO251.out; subst eo100) | ((with_reducible refine qA9 (f := 70) rfl ?_); refine qC2 (some 157) Try.func70 #[.int .i64 (rd l1 0), .slice Ao100 y249.length co100] ?_; (with_reducible refine (qAA.calls kj62 (rd l1 0) _ _ y249 t252 _ ?side1 ?side2 A97.out).mono ?_); (case side1 => repeat (first | exact (Kd.qAU HO251.out).2.2 | refine sC ?_)); (case side2 => exact (Kd.qAU HO251.out).2.1); rintro e w' ⟨rfl, ⟨nd, rfl⟩⟩; refine ⟨_, rfl, ?_⟩))
                     go_ret2
                     exact ⟨zf, zb⟩
                    ·rw [if_neg c96] at H
                     exact absurd H (by simp)
                   ·rw [if_neg c95] at H
                    have ⟨c95b0, c95b1⟩ := zn c95
                    by_cases c101 : 0 < (l1.length : Int)
                    ·rw [if_pos c101] at H
                     have c101b0 := decide_eq_true c101
                     have c101b1 : decide (0 < l1.length) = true := decide_eq_true (by omega)
                     clear c101
                     obtain ⟨y254, hy_⟩ : ∃ y_ : List Int, y_ = (([4] : List Int)) := ⟨_, rfl⟩
                     replace H : ((qAA.f kj62 (rd l1 0) y254).bind fun t257 => (if t257 = true then (if 1 < (l1.length : Int) then ((qAA.f kj62 (rd l1 1) (([4] : List Int))).bind fun t262 => (some (5, t262))) else (none)) else (some (5, false)))) = some (r1, r2) := zr
                     have Ny254 := qA0.mk hy_
                     clear hy_
                     replace H := Option.bind_eq_some_iff.mp H
                     obtain ⟨t257, A1020, H⟩ := H
                     have A102 := qA0.mk A1020
                     clear A1020
                     by_cases c103 : t257 = true
                     ·subst c103
                      rw [if_pos rfl] at H
                      by_cases c104 : 1 < (l1.length : Int)
                      ·rw [if_pos c104] at H
                       have c104b0 := decide_eq_true c104
                       have c104b1 : decide (1 < l1.length) = true := decide_eq_true (by omega)
                       clear c104
                       obtain ⟨y259, hy_⟩ : ∃ y_ : List Int, y_ = (([4] : List Int)) := ⟨_, rfl⟩
                       replace H : ((qAA.f kj62 (rd l1 1) y259).bind fun t262 => (some (5, t262))) = some (r1, r2) := zr
                       have Ny259 := qA0.mk hy_
                       clear hy_
                       replace H := Option.bind_eq_some_iff.mp H
                       obtain ⟨t262, A1050, H⟩ := H
                       have A105 := qA0.mk A1050
                       clear A1050
                       simp only [Option.some.injEq, Prod.mk.injEq] at H
                       obtain ⟨rfl, rfl⟩ := H
                       have p253 : 0 ≤ (0 : Int) := (by omega)
                       have q253 : 0 < (l1.length : Int) := zd
                       obtain ⟨ad253, e253, hx253_0⟩ := Kd.qCF HR1.out 0 p253 q253
                       cases e253
                       have qi253 : (0 < l1.length) = True := eq_true (by omega)
                       (try rw [show ((0 : Int)).toNat = 0 from rfl] at hx253_0)
                       (try rw [Addr.add_zero'] at hx253_0)
                       (try replace hx253_0 := zh hx253_0)
                       replace p253 := eq_true p253
                       replace q253 := eq_true q253
                       go_wp2_with (first | ((with_reducible refine qAC (N := 161) rfl ?_); (try (refine qC5 (by rfl) ?_; dsimp only)); refine Kd.qF5 (Kd.int .i64) _ 3 ?hg (N := 161) ?hd (xs := ([4] : List Int)) (inner := [.int .i64 4]) (ok := fun _ => True) (okp := fun _ => True) ?hr ?hp (fun _ hk => hk) trivial (Below.refl _ _) (Nat.le_refl _) (by simp) ?_; (case hd => rfl); (case hg => rfl); (case hr => first | (go_simp; done) | (go_simp; rfl)); (case hp => exact (Reps.one (show Kd.M (Kd.int .i64) _ _ _ 4 [.int .i64 4] from rfl) (Reps.none _ _))); intro v255 w106 ho107 hb hg_ hnew_; clear hg_ hnew_; (first | rw [← Ny254.out] at ho107 | (simp only [Int.reduceToNat] at ho107; rw [← Ny254.out] at ho107)); have HO256 := qA0.mk (Kd.qC9 ho107 (qAM zb)); replace BK197 := qA0.mk (qA5 (zk BK197) hb); replace BK198 := qA0.mk (qA5 (zk BK198) hb); replace HB := qA0.mk (qA1 zb hb); clear hb ho107; obtain ⟨Ao108, co108, eo108⟩ := Kd.qBW HO256.out; subst eo108) | ((with_reducible refine qA9 (f := 70) rfl ?_); refine qC2 (some 162) Try.func70 #[.int .i64 (rd l1 0), .slice Ao108 y254.length co108] ?_; (with_reducible refine (qAA.calls kj62 (rd l1 0) _ _ y254 true _ ?side1 ?side2 A102.out).mono ?_); (case side1 => repeat (first | exact (Kd.qAU HO256.out).2.2 | refine sC ?_)); (case side2 => exact (Kd.qAU HO256.out).2.1); rintro e w' ⟨rfl, ⟨nd, rfl⟩⟩; refine ⟨_, rfl, ?_⟩; have p258 : 0 ≤ (1 : Int) := (by omega); have q258 : 1 < (l1.length : Int) := zd; obtain ⟨ad258, e258, hx258_0⟩ := Kd.qCF HR1.out 1 p258 q258; obtain rfl : ad253 = ad258 := (by injection e258); (try simp only [show (1 : Int).toNat = 1 from rfl, Nat.reduceMul, Nat.reduceEqDiff, Go.Addr.add, ↓reduceIte] at hx258_0); have qi258 : (1 < l1.length) = True := eq_true (by omega); (try rw [show ((1 : Int)).toNat = 1 from rfl] at hx258_0); replace hx258_0 := zh hx258_0; replace p258 := eq_true p258; replace q258 := eq_true q258) | ((with_reducible refine qAC (N := 167) rfl ?_); (try (refine qC5 (by rfl) ?_; dsimp only)); refine Kd.qF5 (Kd.int .i64) _ 3 ?hg (N := 167) ?hd (xs := ([4] : List Int)) (inner := [.int .i64 4]) (ok := fun _ => True) (okp := fun _ => True) ?hr ?hp (fun _ hk => hk) trivial (Below.refl _ _) (Nat.le_refl _) (by simp) ?_; (case hd => rfl); (case hg => rfl); (case hr => first | (go_simp; done) | (go_simp; rfl)); (case hp => exact (Reps.one (show Kd.M (Kd.int .i64) _ _ _ 4 [.int .i64 4] from rfl) (Reps.none _ _))); intro v260 w109 ho110 hb hg_ hnew_; clear hg_ hnew_; (first | rw [← Ny259.out] at ho110 | (simp only [Int.reduceToNat] at ho110; rw [← Ny259.out] at ho110)); have HO261 := qA0.mk (Kd.qC9 (Kd.R_new' ho110 (Kd.R_lt (by (with_reducible repeat (first | apply Kd.qDG | apply Kd.qDF | apply Kd.qDJ)); exact HO256.out))) (qAM zb)); replace HO256 := qA0.mk (Kd.qFA (by (with_reducible repeat (first | apply Kd.qDG | apply Kd.qDF | apply Kd.qDJ)); exact HO256.out) (Kd.qEO ho110) hb); replace BK197 := qA0.mk (qA5 (zk BK197) hb); replace BK198 := qA0.mk (qA5 (zk BK198) hb); replace HB := qA0.mk (qA1 zb hb); clear hb ho110; obtain ⟨Ao111, co111, eo111⟩ := Kd.qBW HO261.out; subst eo111) | (go_at_call 70; (with_reducible refine (qAA.calls kj62 (rd l1 1) _ _ y259 t262 _ ?side1 ?side2 A105.out).mono ?_); (case side1 => repeat (first | exact (Kd.qAU HO261.out).2.2 | refine sC ?_)); (case side2 => exact (Kd.qAU HO261.out).2.1); rintro e w' ⟨rfl, ⟨nd, rfl⟩⟩))
                       go_ret2
                       exact ⟨zf, zb⟩
                      ·rw [if_neg c104] at H
                       exact absurd H (by simp)
                     ·replace c103 := Bool.eq_false_iff.mpr c103
                      subst c103
                      rw [if_neg (show ¬ (false = true) by decide)] at H
                      simp only [Option.some.injEq, Prod.mk.injEq] at H
                      obtain ⟨rfl, rfl⟩ := H
                      have p253 : 0 ≤ (0 : Int) := (by omega)
                      have q253 : 0 < (l1.length : Int) := zd
                      obtain ⟨ad253, e253, hx253_0⟩ := Kd.qCF HR1.out 0 p253 q253
                      cases e253
                      have qi253 : (0 < l1.length) = True := eq_true (by omega)
                      (try rw [show ((0 : Int)).toNat = 0 from rfl] at hx253_0)
                      (try rw [Addr.add_zero'] at hx253_0)
                      (try replace hx253_0 := zh hx253_0)
                      replace p253 := eq_true p253
                      replace q253 := eq_true q253
                      go_wp2_with (first | ((with_reducible refine qAC (N := 161) rfl ?_); (try (refine qC5 (by rfl) ?_; dsimp only)); refine Kd.qF5 (Kd.int .i64) _ 3 ?hg (N := 161) ?hd (xs := ([4] : List Int)) (inner := [.int .i64 4]) (ok := fun _ => True) (okp := fun _ => True) ?hr ?hp (fun _ hk => hk) trivial (Below.refl _ _) (Nat.le_refl _) (by simp) ?_; (case hd => rfl); (case hg => rfl); (case hr => first | (go_simp; done) | (go_simp; rfl)); (case hp => exact (Reps.one (show Kd.M (Kd.int .i64) _ _ _ 4 [.int .i64 4] from rfl) (Reps.none _ _))); intro v255 w112 ho113 hb hg_ hnew_; clear hg_ hnew_; (first | rw [← Ny254.out] at ho113 | (simp only [Int.reduceToNat] at ho113; rw [← Ny254.out] at ho113)); have HO256 := qA0.mk (Kd.qC9 ho113 (qAM zb)); replace BK197 := qA0.mk (qA5 (zk BK197) hb); replace BK198 := qA0.mk (qA5 (zk BK198) hb); replace HB := qA0.mk (qA1 zb hb); clear hb ho113; obtain ⟨Ao114, co114, eo114⟩ := Kd.qBW HO256.out; subst eo114) | ((with_reducible refine qA9 (f := 70) rfl ?_); refine qC2 (some 162) Try.func70 #[.int .i64 (rd l1 0), .slice Ao114 y254.length co114] ?_; (with_reducible refine (qAA.calls kj62 (rd l1 0) _ _ y254 false _ ?side1 ?side2 A102.out).mono ?_); (case side1 => repeat (first | exact (Kd.qAU HO256.out).2.2 | refine sC ?_)); (case side2 => exact (Kd.qAU HO256.out).2.1); rintro e w' ⟨rfl, ⟨nd, rfl⟩⟩; refine ⟨_, rfl, ?_⟩))
                      go_ret2
                      exact ⟨zf, zb⟩
                    ·rw [if_neg c101] at H
                     exact absurd H (by simp)
end
end Go.Proofs.Ytnliaialemfcaaa.PRateFinds
end
