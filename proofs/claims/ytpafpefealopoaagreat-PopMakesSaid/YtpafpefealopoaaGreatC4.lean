/- A part of the proof of PopMakes: texts that were printed, words, walks. No condition. -/
import Derived.Test.YtpafpefealopoaaGreatC1
import Derived.Test.YtpafpefealopoaaGreatC2
import Derived.Test.YtpafpefealopoaaGreatC3
set_option linter.unusedVariables false
set_option linter.unusedSimpArgs false
section
namespace Go.Proofs.YtpafpefealopoaaGreat.PPopMakes
noncomputable section
open Go.RowKit Go.Proofs.YtpafpefealopoaaGreatW.PrintWords Go.Proofs.YtpafpefealopoaaGreatW.PrintLast Go.Proofs.YtpafpefealopoaaGreatW.PrintMore
set_option maxHeartbeats 8000000
set_option maxRecDepth 100000
mutual
def qBR.j0 : Nat → Int → Int → Bool → Option (Int)
 | 0, _, _, _ => none
 | k + 1, x0, x3, x4 => if x4 = true then (some 0) else (if x3 = 4 then (qBR.j1 k x0 x3 (x3 == 4)) else (if x3 = 16 then (qBR.j1 k x0 x3 (x3 == 16)) else (qBR.j1 k x0 x3 (x3 == 17))))
def qBR.j1 : Nat → Int → Int → Bool → Option (Int)
 | 0, _, _, _ => none
 | k + 1, x0, x3, x9 => if x9 = true then (some 1) else (if x3 = 15 then (some 3) else (if x0 > 4 then (if x0 < 19 then (some 2) else (some (-1))) else (some (-1))))
end
def qBR.f (k : Nat) (a0 : Int) : Option (Int) := if a0 = 0 then (qBR.j0 k a0 a0 (a0 == 0)) else (if a0 = 1 then (qBR.j0 k a0 a0 (a0 == 1)) else (if a0 = 2 then (qBR.j0 k a0 a0 (a0 == 2)) else (qBR.j0 k a0 a0 (a0 == 3))))
theorem qBR.qC6 : ∀ k, (∀ y0 y1 y2, LeO (qBR.j0 k y0 y1 y2) (qBR.j0 (k + 1) y0 y1 y2)) ∧ (∀ y0 y1 y2, LeO (qBR.j1 k y0 y1 y2) (qBR.j1 (k + 1) y0 y1 y2))
 | 0 => ⟨fun _ _ _ r h => by simp [qBR.j0] at h, fun _ _ _ r h => by simp [qBR.j1] at h⟩
 | k + 1 => by
  obtain ⟨ih0, ih1⟩ := qBR.qC6 k
  refine ⟨?_, ?_⟩
  ·intro y0 y1 y2
   unfold qBR.j0
   exact zm
  ·intro y0 y1 y2
   unfold qBR.j1
   exact zm
theorem qBR.mono : ∀ a0 k, LeO (qBR.f k a0) (qBR.f (k + 1) a0) := by
 intro a0 k
 obtain ⟨ih0, ih1⟩ := qBR.qC6 k
 unfold qBR.f
 exact zm
theorem qBR.calls (k : Nat) (a0 : Int) (r : Int) (w : World) (h : qBR.f k a0 = some r) :
  Calls Tryz.prog 156 #[.int .i64 a0] w fun e w' => e = .returned (.int .i64 r) ∧ qAX w w' := by
 have H := h
 unfold qBR.f at H
 clear h
 have HC2 := qA0.mk H
 clear H
 go_enter Tryz.func156, Tryz.ntmps156
 go_upto_if 4 with (fail)
 go_cut [4] (fun v4 wc => ∃ (kq : Nat) (x4_1 : Bool), v4 = .bool x4_1 ∧ qA0 (qBR.j0 kq a0 a0 x4_1 = some r) ∧ qA0 (kq ≤ k) ∧ qAX w wc)
 case first =>
  have H := HC2.out
  clear HC2
  by_cases c3 : a0 = 0
  ·rw [if_pos c3] at H
   have ⟨c3b0, c3b1⟩ := ze c3
   clear c3
   (first | rw [c3b0] | (simp only [qC9, qCB]; rw [c3b0]) | skip)
   have H' := qA0.mk H
   clear H
   go_wp2
   go_meet
   case rel => exact ⟨_, ((a0 == 0)), zs, H', ⟨by first | omega | exact Nat.le_refl _⟩, by repeat (first | exact qAX.refl _ | apply qAX.step)⟩
  rw [if_neg c3] at H
  have ⟨c3b0, c3b1⟩ := zn c3
  (first | rw [c3b0] | (simp only [qC9, qCB]; rw [c3b0]) | skip)
  by_cases c4 : a0 = 1
  ·rw [if_pos c4] at H
   have ⟨c4b0, c4b1⟩ := ze c4
   clear c4
   have H' := qA0.mk H
   clear H
   go_wp2
   go_meet
   case rel => exact ⟨_, ((a0 == 1)), zs, H', ⟨by first | omega | exact Nat.le_refl _⟩, by repeat (first | exact qAX.refl _ | apply qAX.step)⟩
  rw [if_neg c4] at H
  have ⟨c4b0, c4b1⟩ := zn c4
  by_cases c5 : a0 = 2
  rotate_left
  ·rw [if_neg c5] at H
   have ⟨c5b0, c5b1⟩ := zn c5
   have H' := qA0.mk H
   clear H
   go_wp2
   go_meet
   case rel => exact ⟨_, ((a0 == 3)), zs, H', ⟨by first | omega | exact Nat.le_refl _⟩, by repeat (first | exact qAX.refl _ | apply qAX.step)⟩
  rw [if_pos c5] at H
  have ⟨c5b0, c5b1⟩ := ze c5
  clear c5
  have H' := qA0.mk H
  clear H
  go_wp2
  go_meet
  case rel => exact ⟨_, ((a0 == 2)), zs, H', ⟨by first | omega | exact Nat.le_refl _⟩, by repeat (first | exact qAX.refl _ | apply qAX.step)⟩
 clear HC2
 obtain ⟨kq, x4_1, rfl, HA, HJ1, ⟨mc1, rfl⟩⟩ := hcut
 obtain _ | kj1 := kq
 ·exact absurd HA.out (by simp [qBR.j0])
 have H := HA.out
 clear HA
 simp only [qBR.j0] at H
 by_cases c6 : x4_1 = true
 ·subst c6
  rw [if_pos rfl] at H
  obtain rfl := Option.some.inj H
  go_wp2
  go_ret
  exact ⟨zs, zD⟩
 replace c6 := Bool.eq_false_iff.mpr c6
 subst c6
 rw [zj] at H
 have HC7 := qA0.mk H
 clear H
 go_upto_if 9 with (fail)
 go_cut [9] (fun v9 wc => ∃ (kq : Nat) (x9_6 : Bool), v9 = .bool x9_6 ∧ qA0 (qBR.j1 kq a0 a0 x9_6 = some r) ∧ qA0 (kq ≤ kj1) ∧ qAX w wc)
 case first =>
  have H := HC7.out
  clear HC7
  by_cases c8 : a0 = 4
  ·rw [if_pos c8] at H
   have ⟨c8b0, c8b1⟩ := ze c8
   clear c8
   (first | rw [c8b0] | (simp only [qC9, qCB]; rw [c8b0]) | skip)
   have H' := qA0.mk H
   clear H
   go_wp2
   go_meet
   case rel => exact ⟨_, ((a0 == 4)), zs, H', ⟨by have := HJ1.out; first | omega | exact Nat.le_refl _⟩, by repeat (first | exact qAX.refl _ | apply qAX.step)⟩
  rw [if_neg c8] at H
  have ⟨c8b0, c8b1⟩ := zn c8
  (first | rw [c8b0] | (simp only [qC9, qCB]; rw [c8b0]) | skip)
  by_cases c9 : a0 = 16
  rotate_left
  ·rw [if_neg c9] at H
   have ⟨c9b0, c9b1⟩ := zn c9
   have H' := qA0.mk H
   clear H
   go_wp2
   go_meet
   case rel => exact ⟨_, ((a0 == 17)), zs, H', ⟨by have := HJ1.out; first | omega | exact Nat.le_refl _⟩, by repeat (first | exact qAX.refl _ | apply qAX.step)⟩
  rw [if_pos c9] at H
  have ⟨c9b0, c9b1⟩ := ze c9
  clear c9
  have H' := qA0.mk H
  clear H
  go_wp2
  go_meet
  case rel => exact ⟨_, ((a0 == 16)), zs, H', ⟨by have := HJ1.out; first | omega | exact Nat.le_refl _⟩, by repeat (first | exact qAX.refl _ | apply qAX.step)⟩
 clear HC7
 obtain ⟨kq, x9_6, rfl, HA, HJ6, ⟨mc6, rfl⟩⟩ := hcut
 obtain _ | kj6 := kq
 ·exact absurd HA.out (by simp [qBR.j1])
 have H := HA.out
 clear HA
 simp only [qBR.j1] at H
 by_cases c10 : x9_6 = true
 ·subst c10
  rw [if_pos rfl] at H
  obtain rfl := Option.some.inj H
  go_wp2
  go_ret
  exact ⟨zs, zD⟩
 replace c10 := Bool.eq_false_iff.mpr c10
 subst c10
 rw [zj] at H
 by_cases c11 : a0 = 15
 ·rw [if_pos c11] at H
  have ⟨c11b0, c11b1⟩ := ze c11
  clear c11
  obtain rfl := Option.some.inj H
  go_wp2
  go_ret
  exact ⟨zs, zD⟩
 rw [if_neg c11] at H
 have ⟨c11b0, c11b1⟩ := zn c11
 by_cases c12 : a0 > 4
 rotate_left
 ·rw [if_neg c12] at H
  have c12b0 := decide_eq_false c12
  clear c12
  obtain rfl := Option.some.inj H
  go_wp2
  go_ret
  exact ⟨zs, zD⟩
 rw [if_pos c12] at H
 have c12b0 := decide_eq_true c12
 clear c12
 by_cases c13 : a0 < 19
 rotate_left
 ·rw [if_neg c13] at H
  have c13b0 := decide_eq_false c13
  clear c13
  obtain rfl := Option.some.inj H
  go_wp2
  go_ret
  exact ⟨zs, zD⟩
 rw [if_pos c13] at H
 have c13b0 := decide_eq_true c13
 clear c13
 obtain rfl := Option.some.inj H
 go_wp2
 go_ret
 exact ⟨zs, zD⟩
def qEV.f (a0 : Int) : Option (Bool) := if a0 = 1 then (some true) else (if a0 = 2 then (some true) else (if a0 = 3 then (some true) else (some (a0 == 16))))
theorem qEV.calls (a0 : Int) (r : Bool) (w : World) (h : qEV.f a0 = some r) :
  Calls Tryz.prog 158 #[.int .i64 a0] w fun e w' => e = .returned (.bool r) ∧ qAX w w' := by
 have H := h
 unfold qEV.f at H
 clear h
 by_cases c2 : a0 = 1
 ·rw [if_pos c2] at H
  have ⟨c2b0, c2b1⟩ := ze c2
  clear c2
  obtain rfl := Option.some.inj H
  go_enter Tryz.func158, Tryz.ntmps158
  go_wp2
  go_ret
  exact ⟨zs, zD⟩
 rw [if_neg c2] at H
 have ⟨c2b0, c2b1⟩ := zn c2
 by_cases c3 : a0 = 2
 ·rw [if_pos c3] at H
  have ⟨c3b0, c3b1⟩ := ze c3
  clear c3
  obtain rfl := Option.some.inj H
  go_enter Tryz.func158, Tryz.ntmps158
  go_wp2
  go_ret
  exact ⟨zs, zD⟩
 rw [if_neg c3] at H
 have ⟨c3b0, c3b1⟩ := zn c3
 by_cases c4 : a0 = 3
 rotate_left
 ·rw [if_neg c4] at H
  have ⟨c4b0, c4b1⟩ := zn c4
  obtain rfl := Option.some.inj H
  go_enter Tryz.func158, Tryz.ntmps158
  go_wp2
  go_ret
  exact ⟨zs, zD⟩
 rw [if_pos c4] at H
 have ⟨c4b0, c4b1⟩ := ze c4
 clear c4
 obtain rfl := Option.some.inj H
 go_enter Tryz.func158, Tryz.ntmps158
 go_wp2
 go_ret
 exact ⟨zs, zD⟩
def qF8 (op : Int) : Int := if op = 0 ∨ op = 1 ∨ op = 2 ∨ op = 3 then 0 else if op = 4 ∨ op = 16 ∨ op = 17 then 1 else if op = 15 then 3 else if 4 < op ∧ op < 19 then 2 else -1
def namedB (op : Int) : Bool := decide (op = 1 ∨ op = 2 ∨ op = 3 ∨ op = 16)
theorem kids_f (op : Int) : qBR.f 2 op = some (qF8 op) := by
 unfold qBR.f qF8
 by_cases h0 : op = 0
 ·subst h0; rfl
 by_cases h1 : op = 1
 ·subst h1; rfl
 by_cases h2 : op = 2
 ·subst h2; rfl
 by_cases h3 : op = 3
 ·subst h3; rfl
 by_cases h4 : op = 4
 ·subst h4; rfl
 by_cases h5 : op = 16
 ·subst h5; rfl
 by_cases h6 : op = 17
 ·subst h6; rfl
 by_cases h7 : op = 15
 ·subst h7; rfl
 by_cases h8 : 4 < op <;> by_cases h9 : op < 19 <;> simp [h0, h1, h2, h3, h4, h5, h6, h7, h8, h9, qBR.j0, qBR.j1]
theorem kids_calls (op : Int) (w : World) : Calls Tryz.prog 156 #[.int .i64 op] w fun e w' => e = .returned (.int .i64 (qF8 op)) ∧ qAX w w' := qBR.calls 2 op _ w (kids_f op)
theorem named_f (op : Int) : qEV.f op = some (namedB op) := by
 unfold qEV.f namedB
 by_cases h1 : op = 1 <;> by_cases h2 : op = 2 <;> by_cases h3 : op = 3 <;> by_cases h4 : op = 16 <;> simp [h1, h2, h3, h4]
theorem qDL (op : Int) (w : World) : Calls Tryz.prog 158 #[.int .i64 op] w fun e w' => e = .returned (.bool (namedB op)) ∧ qAX w w' := qEV.calls op _ w (named_f op)
theorem out_calls (x i : Int) (gi : Addr) (w : World) (hc : w.cell? gi = some (.int .i64 i)) : Calls Tryz.prog 157 #[.int .i64 x, .pointer (some gi)] w fun e w' => e = .returned (.bool (decide (x < 0) || decide (i ≤ x))) ∧ w' = w := by
 by_cases c1 : x < 0
 rotate_left
 ·have c1b : decide (x < 0) = false := decide_eq_false c1
  clear c1
  go_enter Tryz.func157, Tryz.ntmps157
  go_wp2
  go_ret
  exact ⟨by simp [c1b], rfl⟩
 have c1b : decide (x < 0) = true := decide_eq_true c1
 clear c1
 go_enter Tryz.func157, Tryz.ntmps157
 go_wp2
 go_ret
 exact ⟨by simp [c1b], rfl⟩
def outB (l : List Int) (i : Int) : Bool := l.any fun x => decide (x < 0) || decide (i ≤ x)
theorem out_all (A : Option Addr) (c : Nat) (l : List Int) (i : Int) (gi : Addr) (w : World) (hC : Kd.C (Kd.int .i64) w A l.length l) (hl : l.length ≤ c) (hc : w.cell? gi = some (.int .i64 i)) :
  Calls Tryz.prog 24 #[.slice A l.length c, .func (.func 157) #[] #[.pointer (some gi)]] w fun e w' => e = .returned (.bool (outB l i)) ∧ w' = w := by
 refine (qDD.contains A c l gi (fun k W => W = w ∧ ∀ j, j < k → (decide (l.getD j 0 < 0) || decide (i ≤ l.getD j 0)) = false) (fun k W => W = w ∧ (decide (l.getD k 0 < 0) || decide (i ≤ l.getD k 0)) = true) (fun k W hW => by rw [hW.1]; exact hC) hl ?_ w ⟨rfl, fun j hj => absurd hj (by omega)⟩).mono ?_
 ·rintro k W hk ⟨rfl, hJ⟩
  refine (out_calls _ i gi W hc).mono ?_
  rintro e w' ⟨rfl, rfl⟩
  cases hb : (decide (l.getD k 0 < 0) || decide (i ≤ l.getD k 0))
  ·refine .inr ⟨rfl, rfl, fun j hj => ?_⟩
   rcases Nat.lt_or_ge j k with h | h
   ·exact hJ j h
   ·obtain rfl : j = k := by omega
    exact hb
  ·exact .inl ⟨rfl, rfl, rfl⟩
 ·rintro e w' (⟨rfl, k, hk, rfl, hb⟩ | ⟨rfl, rfl, hJ⟩)
  ·refine ⟨?_, rfl⟩
   have : outB l i = true := List.any_eq_true.2 ⟨l.getD k 0, by rw [List.getD_eq_getElem?_getD, List.getElem?_eq_getElem hk]; exact List.getElem_mem _, hb⟩
   rw [this]
  ·refine ⟨?_, rfl⟩
   have : outB l i = false := by
    apply Bool.eq_false_iff.2
    intro h
    obtain ⟨x, hx, hb⟩ := List.any_eq_true.1 h
    obtain ⟨j, hj, rfl⟩ := List.getElem_of_mem hx
    have := hJ j hj
    rw [List.getD_eq_getElem?_getD, List.getElem?_eq_getElem hj] at this
    simp only [Option.getD_some] at this
    rw [this] at hb
    cases hb
   rw [this]
def qEZ.f (op : Int) (kids : List Int) (kind n : Int) (name : ByteArray) (i : Int) : Option Int :=
 if qF8 op < 0 then some 1 else if (kids.length : Int) ≠ qF8 op then some 3 else if outB kids i = true then some 3
 else if (op ≠ 0 ∧ op ≠ 17) ∧ (kind ≠ 0 ∨ n ≠ 0) then some 3 else if namedB op = false ∧ name.toList ≠ [] then some 3
 else if op = 0 then (if kind = 0 then some 8 else qCT.f kind n)
 else if op = 17 then (if kind < 0 ∨ 5 ≤ kind ∨ n < 1 ∨ 1099511627776 < n then some 1 else some 0)
 else if namedB op = true then (qBE.f 200 name).bind fun b => if b = true then some 0 else some 15
 else some 0
structure NodeAt (W : World) (b gi : Nat) (op : Int) (A : Option Addr) (c : Nat) (kids : List Int) (kind n : Int) (name : ByteArray) (i : Int) : Prop where
 h0 : W.cell? ⟨b, 0, none⟩ = some (.int .i64 op)
 h1 : W.cell? ⟨b, 1, none⟩ = some (.slice A kids.length c)
 h2 : W.cell? ⟨b, 2, none⟩ = some (.int .i64 kind)
 h3 : W.cell? ⟨b, 3, none⟩ = some (.int .i64 n)
 h4 : W.cell? ⟨b, 4, none⟩ = some (.string name)
 h5 : W.cell? ⟨gi, 0, none⟩ = some (.int .i64 i)
 hC : Kd.C (Kd.int .i64) W A kids.length kids
theorem NodeAt.below {W W' : World} {b gi : Nat} {op : Int} {A : Option Addr} {c : Nat} {kids : List Int} {kind n : Int} {name : ByteArray} {i : Int} (h : NodeAt W b gi op A c kids kind n name i) (hB : Below W.heap.size W W') : NodeAt W' b gi op A c kids kind n name i :=
 ⟨qCO hB h.h0, qCO hB h.h1, qCO hB h.h2, qCO hB h.h3, qCO hB h.h4, qCO hB h.h5, Kd.qAE h.hC hB⟩
theorem qEZ.calls (a0_0 : Int) (A0_1 : Option Addr) (c0_1 : Nat) (l0_1 : List Int) (a0_2 : Int) (a0_3 : Int) (a0_4 : ByteArray) (a1 : Int) (r : Int) (w : World) (hr0_1 : Kd.C (Kd.int .i64) w A0_1 l0_1.length l0_1) (hc0_1 : l0_1.length ≤ c0_1) (h : qEZ.f a0_0 l0_1 a0_2 a0_3 a0_4 a1 = some r) :
  Calls Tryz.prog 141 #[.agg #[.int .i64 a0_0, .slice A0_1 l0_1.length c0_1, .int .i64 a0_2, .int .i64 a0_3, .string a0_4], .int .i64 a1] w fun e w' => e = .returned (.int .i64 r) ∧ Below w.heap.size w w' := by
 unfold qEZ.f at h
 have H := qA0.mk h
 have HL := qA0.mk hc0_1
 generalize hW0 : (w.alloc (.cells #[.int .i64 a0_0, .slice A0_1 l0_1.length c0_1, .int .i64 a0_2, .int .i64 a0_3, .string a0_4] 66)).alloc (.cells #[.int .i64 a1] 3) = W0
 have hB0 : Below w.heap.size w W0 := by rw [← hW0]; exact qAC (qAC (Below.refl _ _) _) _
 have hN0 : NodeAt W0 w.heap.size (w.heap.size + 1) a0_0 A0_1 c0_1 l0_1 a0_2 a0_3 a0_4 a1 := by
  refine ⟨?_, ?_, ?_, ?_, ?_, ?_, Kd.qAE hr0_1 hB0⟩ <;> rw [← hW0] <;> simp
 have HW0 := qA0.mk hW0
 have HB := qA0.mk hB0
 have HN := qA0.mk hN0
 clear h hr0_1 hc0_1 hB0 hN0 hW0
 go_enter Tryz.func141, Tryz.ntmps141
 go_wp2_with fail
 rw [HW0.out]
 refine (kids_calls a0_0 _).mono ?_
 rintro e w1 ⟨rfl, ⟨n1, rfl⟩⟩
 by_cases c1 : qF8 a0_0 < 0
 ·have hr : r = 1 := by have := H.out; rw [if_pos c1] at this; exact (Option.some.inj this).symm
  subst hr
  have c1b : decide (qF8 a0_0 < 0) = true := decide_eq_true c1
  clear c1
  go_wp2_with fail
  go_ret
  exact ⟨rfl, qA8 HB.out n1⟩
 have H1 := qA0.mk (by have := H.out; rwa [if_neg c1] at this)
 have c1b : decide (qF8 a0_0 < 0) = false := decide_eq_false c1
 clear c1 H
 have HN1 := qA0.mk (HN.out.below (qA8 (Below.refl _ _) n1))
 have HB1 := qA0.mk (qA8 HB.out n1)
 generalize W0.drewN n1 = W1 at HN1 HB1 ⊢
 clear HN HB HW0
 obtain ⟨h0, h1, h2, h3, h4, h5, hC⟩ := HN1.out
 have HC := qA0.mk hC
 clear hC
 by_cases c2 : (l0_1.length : Int) ≠ qF8 a0_0
 ·have hr : r = 3 := by have := H1.out; rw [if_pos c2] at this; exact (Option.some.inj this).symm
  subst hr
  have c2b : ((l0_1.length : Int) != qF8 a0_0) = true := bne_iff_ne.mpr c2
  clear c2
  go_wp2_with fail
  go_quiet ((go_at_call 156; exact Calls.quiet_of ((kids_calls a0_0 _).mono fun e w' h => ⟨h.1, h.2.out⟩)))
  go_wp2_with fail
  go_ret
  exact ⟨rfl, by repeat (first | exact HB1.out | apply qA8)⟩
 have H2 := qA0.mk (by have := H1.out; rwa [if_neg c2] at this)
 have c2e : (l0_1.length : Int) = qF8 a0_0 := Decidable.not_not.mp c2
 have c2b : ((l0_1.length : Int) != qF8 a0_0) = false := bne_eq_false_iff_eq.mpr c2e
 clear c2 c2e H1
 have hq : ∀ n, Calls Tryz.prog 24 #[.slice A0_1 l0_1.length c0_1, .func (.func 157) #[] #[.pointer (some ⟨w.heap.size + 1, 0, none⟩)]] (W1.drewN n) fun e w' => e = .returned (.bool (outB l0_1 a1)) ∧ w' = W1.drewN n := fun n => out_all A0_1 c0_1 l0_1 a1 ⟨w.heap.size + 1, 0, none⟩ _ (Kd.qAE HC.out (qA8 (Below.refl _ _) n)) HL.out h5
 have HQ := qA0.mk hq
 clear hq
 by_cases c3 : outB l0_1 a1 = true
 ·have hr : r = 3 := by have := H2.out; rw [if_pos c3] at this; exact (Option.some.inj this).symm
  subst hr
  go_wp2_with fail
  go_quiet (first | (go_at_call 156; exact Calls.quiet_of ((kids_calls a0_0 _).mono fun e w' h => ⟨h.1, h.2.out⟩)) | (go_at_call 24; exact Calls.quiet_of_same (HQ.out _)))
  go_wp2_with fail
  go_ret
  exact ⟨rfl, by repeat (first | exact HB1.out | apply qA8)⟩
 have H3 := qA0.mk (by have := H2.out; rwa [if_neg c3] at this)
 have c3b : outB l0_1 a1 = false := Bool.eq_false_iff.2 c3
 clear c3 H2
 go_wp2_with fail
 go_quiet (first | (go_at_call 156; exact Calls.quiet_of ((kids_calls a0_0 _).mono fun e w' h => ⟨h.1, h.2.out⟩)) | (go_at_call 24; exact Calls.quiet_of_same (HQ.out _)))
 rename_i nq
 have HN2 := qA0.mk (HN1.out.below (qA8 (Below.refl _ _) nq))
 have HB2 := qA0.mk (qA8 HB1.out nq)
 generalize W1.drewN nq = W2 at HN2 HB2 ⊢
 clear HN1 HB1 HQ HC h0 h1 h2 h3 h4 h5 c1b c2b c3b
 obtain ⟨h0, h1, h2, h3, h4, h5, hC⟩ := HN2.out
 clear hC
 by_cases d1 : a0_0 = 0
 ·have d1b : (a0_0 == 0) = true := beq_iff_eq.mpr d1
  have d1c : (a0_0 != 0) = false := bne_eq_false_iff_eq.mpr d1
  have H4 := qA0.mk (by have := H3.out; rwa [if_neg (by omega)] at this)
  have hn : namedB a0_0 = false := decide_eq_false (by omega)
  have HD := qA0.mk d1
  clear d1 H3
  by_cases d2 : a0_4.toList = []
  rotate_left
  ·have hr : r = 3 := by have := H4.out; rw [if_pos ⟨hn, d2⟩] at this; exact (Option.some.inj this).symm
   subst hr
   have d2b : (a0_4.toList == ([] : List UInt8)) = false := beq_eq_false_iff_ne.mpr d2
   have d2c : (a0_4.toList != ([] : List UInt8)) = true := bne_iff_ne.mpr d2
   clear d2
   go_wp2_with fail
   refine (qDL a0_0 _).mono ?_
   rintro e w1 ⟨rfl, ⟨n1, rfl⟩⟩
   rw [hn]
   go_wp2_with fail
   go_ret
   exact ⟨rfl, by repeat (first | exact HB2.out | apply qA8)⟩
  have d2b : (a0_4.toList == ([] : List UInt8)) = true := beq_iff_eq.mpr d2
  have d2c : (a0_4.toList != ([] : List UInt8)) = false := bne_eq_false_iff_eq.mpr d2
  have H5 := qA0.mk (by have := H4.out; rwa [if_neg (by simp [d2]), if_pos HD.out] at this)
  clear d2 H4
  go_wp2_with fail
  refine (qDL a0_0 _).mono ?_
  rintro e w1 ⟨rfl, ⟨n1, rfl⟩⟩
  rw [hn]
  by_cases d3 : a0_2 = 0
  ·have hr : r = 8 := by have := H5.out; rw [if_pos d3] at this; exact (Option.some.inj this).symm
   subst hr
   have d3b : (a0_2 == 0) = true := beq_iff_eq.mpr d3
   clear d3
   go_wp2_with fail
   go_ret
   exact ⟨rfl, by repeat (first | exact HB2.out | apply qA8)⟩
  have H6 := qA0.mk (by have := H5.out; rwa [if_neg d3] at this)
  have d3b : (a0_2 == 0) = false := beq_eq_false_iff_ne.mpr d3
  clear d3 H5
  go_wp2_with fail
  refine (qCT.calls a0_2 a0_3 r _ H6.out).mono ?_
  rintro e w2 ⟨rfl, hb⟩
  have HB3 := qA0.mk hb
  clear hb
  go_wp2_with fail
  go_ret
  exact ⟨rfl, qBZ (by repeat (first | exact HB2.out | apply qA8)) HB3.out⟩
 have d1b : (a0_0 == 0) = false := beq_eq_false_iff_ne.mpr d1
 have d1c : (a0_0 != 0) = true := bne_iff_ne.mpr d1
 by_cases d4 : a0_0 = 17
 ·have d4b : (a0_0 == 17) = true := beq_iff_eq.mpr d4
  have d4c : (a0_0 != 17) = false := bne_eq_false_iff_eq.mpr d4
  have hn : namedB a0_0 = false := decide_eq_false (by omega)
  have H4 := qA0.mk (by have := H3.out; rwa [if_neg (by omega)] at this)
  have HD := qA0.mk d4
  have HE := qA0.mk d1
  clear d4 d1 H3
  by_cases d2 : a0_4.toList = []
  rotate_left
  ·have hr : r = 3 := by have := H4.out; rw [if_pos ⟨hn, d2⟩] at this; exact (Option.some.inj this).symm
   subst hr
   have d2b : (a0_4.toList == ([] : List UInt8)) = false := beq_eq_false_iff_ne.mpr d2
   have d2c : (a0_4.toList != ([] : List UInt8)) = true := bne_iff_ne.mpr d2
   clear d2
   go_wp2_with fail
   refine (qDL a0_0 _).mono ?_
   rintro e w1 ⟨rfl, ⟨n1, rfl⟩⟩
   rw [hn]
   go_wp2_with fail
   go_ret
   exact ⟨rfl, by repeat (first | exact HB2.out | apply qA8)⟩
  have d2b : (a0_4.toList == ([] : List UInt8)) = true := beq_iff_eq.mpr d2
  have d2c : (a0_4.toList != ([] : List UInt8)) = false := bne_eq_false_iff_eq.mpr d2
  have H5 := qA0.mk (by have := H4.out; rwa [if_neg (by simp [d2]), if_neg HE.out, if_pos HD.out] at this)
  clear d2 H4
  go_wp2_with fail
  refine (qDL a0_0 _).mono ?_
  rintro e w1 ⟨rfl, ⟨n1, rfl⟩⟩
  rw [hn]
  by_cases e1 : a0_2 < 0
  ·have hr : r = 1 := by have := H5.out; rw [if_pos (.inl e1)] at this; exact (Option.some.inj this).symm
   subst hr
   have e1b : decide (a0_2 < 0) = true := decide_eq_true e1
   clear e1
   go_wp2_with fail
   go_ret
   exact ⟨rfl, by repeat (first | exact HB2.out | apply qA8)⟩
  have e1b : decide (a0_2 < 0) = false := decide_eq_false e1
  by_cases e2 : 5 ≤ a0_2
  ·have hr : r = 1 := by have := H5.out; rw [if_pos (.inr (.inl e2))] at this; exact (Option.some.inj this).symm
   subst hr
   have e2b : decide (5 ≤ a0_2) = true := decide_eq_true e2
   clear e1 e2
   go_wp2_with fail
   go_ret
   exact ⟨rfl, by repeat (first | exact HB2.out | apply qA8)⟩
  have e2b : decide (5 ≤ a0_2) = false := decide_eq_false e2
  by_cases e3 : a0_3 < 1
  ·have hr : r = 1 := by have := H5.out; rw [if_pos (.inr (.inr (.inl e3)))] at this; exact (Option.some.inj this).symm
   subst hr
   have e3b : decide (a0_3 < 1) = true := decide_eq_true e3
   clear e1 e2 e3
   go_wp2_with fail
   go_ret
   exact ⟨rfl, by repeat (first | exact HB2.out | apply qA8)⟩
  have e3b : decide (a0_3 < 1) = false := decide_eq_false e3
  by_cases e4 : 1099511627776 < a0_3
  ·have hr : r = 1 := by have := H5.out; rw [if_pos (.inr (.inr (.inr e4)))] at this; exact (Option.some.inj this).symm
   subst hr
   have e4b : decide (1099511627776 < a0_3) = true := decide_eq_true e4
   clear e1 e2 e3 e4
   go_wp2_with fail
   go_ret
   exact ⟨rfl, by repeat (first | exact HB2.out | apply qA8)⟩
  have e4b : decide (1099511627776 < a0_3) = false := decide_eq_false e4
  have hr : r = 0 := by have := H5.out; rw [if_neg (by omega)] at this; exact (Option.some.inj this).symm
  subst hr
  clear e1 e2 e3 e4
  go_wp2_with fail
  refine (qDL a0_0 _).mono ?_
  rintro e w1 ⟨rfl, ⟨n2, rfl⟩⟩
  rw [hn]
  go_wp2_with fail
  go_ret
  exact ⟨rfl, by repeat (first | exact HB2.out | apply qA8)⟩
 have d4b : (a0_0 == 17) = false := beq_eq_false_iff_ne.mpr d4
 have d4c : (a0_0 != 17) = true := bne_iff_ne.mpr d4
 by_cases f1 : a0_2 = 0
 case neg =>
  have hr : r = 3 := by have := H3.out; rw [if_pos ⟨⟨d1, d4⟩, .inl f1⟩] at this; exact (Option.some.inj this).symm
  subst hr
  have f1b : (a0_2 != 0) = true := bne_iff_ne.mpr f1
  clear f1 d1 d4
  go_wp2_with fail
  go_ret
  exact ⟨rfl, by repeat (first | exact HB2.out | apply qA8)⟩
 have f1b : (a0_2 != 0) = false := bne_eq_false_iff_eq.mpr f1
 by_cases f2 : a0_3 = 0
 case neg =>
  have hr : r = 3 := by have := H3.out; rw [if_pos ⟨⟨d1, d4⟩, .inr f2⟩] at this; exact (Option.some.inj this).symm
  subst hr
  have f2b : (a0_3 != 0) = true := bne_iff_ne.mpr f2
  clear f1 f2 d1 d4
  go_wp2_with fail
  go_ret
  exact ⟨rfl, by repeat (first | exact HB2.out | apply qA8)⟩
 have f2b : (a0_3 != 0) = false := bne_eq_false_iff_eq.mpr f2
 have H4 := qA0.mk (by have := H3.out; rwa [if_neg (by omega), if_neg d1, if_neg d4] at this)
 clear f1 f2 d1 d4 H3
 by_cases hn : namedB a0_0 = true
 rotate_left
 ·have hn := Bool.eq_false_iff.2 hn
  by_cases d2 : a0_4.toList = []
  rotate_left
  ·have hr : r = 3 := by have := H4.out; rw [if_pos ⟨hn, d2⟩] at this; exact (Option.some.inj this).symm
   subst hr
   have d2b : (a0_4.toList == ([] : List UInt8)) = false := beq_eq_false_iff_ne.mpr d2
   have d2c : (a0_4.toList != ([] : List UInt8)) = true := bne_iff_ne.mpr d2
   clear d2
   go_wp2_with fail
   refine (qDL a0_0 _).mono ?_
   rintro e w1 ⟨rfl, ⟨n1, rfl⟩⟩
   rw [hn]
   go_wp2_with fail
   go_ret
   exact ⟨rfl, by repeat (first | exact HB2.out | apply qA8)⟩
  have hr : r = 0 := by have := H4.out; rw [if_neg (by simp [d2]), if_neg (by simp [hn])] at this; exact (Option.some.inj this).symm
  subst hr
  have d2b : (a0_4.toList == ([] : List UInt8)) = true := beq_iff_eq.mpr d2
  have d2c : (a0_4.toList != ([] : List UInt8)) = false := bne_eq_false_iff_eq.mpr d2
  clear d2 H4
  go_wp2_with fail
  refine (qDL a0_0 _).mono ?_
  rintro e w1 ⟨rfl, ⟨n1, rfl⟩⟩
  rw [hn]
  go_wp2_with fail
  refine (qDL a0_0 _).mono ?_
  rintro e w1 ⟨rfl, ⟨n2, rfl⟩⟩
  rw [hn]
  go_wp2_with fail
  go_ret
  exact ⟨rfl, by repeat (first | exact HB2.out | apply qA8)⟩
 have H5 := qA0.mk (by have := H4.out; rwa [if_neg (by simp [hn]), if_pos hn] at this)
 clear H4
 obtain ⟨b, hb1, hb2⟩ := zi H5.out
 have hk := hb1
 have HK := qA0.mk hk
 have HR := qA0.mk hb2
 clear hb1 hb2 hk H5
 go_wp2_with fail
 refine (qDL a0_0 _).mono ?_
 rintro e w1 ⟨rfl, ⟨n1, rfl⟩⟩
 rw [hn]
 go_wp2_with fail
 refine (qDL a0_0 _).mono ?_
 rintro e w1 ⟨rfl, ⟨n2, rfl⟩⟩
 rw [hn]
 go_wp2_with fail
 refine (qBE.calls 200 a0_4 b _ HK.out).mono ?_
 rintro e w2 ⟨rfl, hb⟩
 have HB3 := qA0.mk hb
 clear hb
 cases b
 ·have hr : r = 15 := by have := HR.out; simp at this; exact this.symm
  subst hr
  go_wp2_with fail
  go_ret
  exact ⟨rfl, qBZ (by repeat (first | exact HB2.out | apply qA8)) HB3.out⟩
 ·have hr : r = 0 := by have := HR.out; simp at this; exact this.symm
  subst hr
  go_wp2_with fail
  go_ret
  exact ⟨rfl, qBZ (by repeat (first | exact HB2.out | apply qA8)) HB3.out⟩
def qAK.l0 : Nat → List Int → Int → Int → Int → Option (Int)
 | 0, _, _, _, _ => none
 | k + 1, x0, x1, x7, x8 => if x8 < x7 then (if 0 ≤ x8 then (if x8 < (x0.length : Int) then (if x1 = (rd x0 x8) then (some x8) else (qAK.l0 k x0 x1 x7 (wrap64 (x8 + 1)))) else (none)) else (none)) else (some (-1))
def qAK.f (k : Nat) (l0 : List Int) (a1 : Int) : Option (Int) := qAK.l0 k l0 a1 (l0.length : Int) 0
theorem qAK.qC6 : ∀ k, (∀ y0 y1 y2 y3, LeO (qAK.l0 k y0 y1 y2 y3) (qAK.l0 (k + 1) y0 y1 y2 y3))
 | 0 => fun _ _ _ _ r h => by simp [qAK.l0] at h
 | k + 1 => by
  have ih0 := qAK.qC6 k
  ·intro y0 y1 y2 y3
   unfold qAK.l0
   exact zm
theorem qAK.mono : ∀ a0 a1 k, LeO (qAK.f k a0 a1) (qAK.f (k + 1) a0 a1) := by
 intro a0 a1 k
 have ih0 := qAK.qC6 k
 unfold qAK.f
 exact zm
theorem qAK.calls (k : Nat) (A0 : Option Addr) (c0 : Nat) (l0 : List Int) (a1 : Int) (r : Int) (w : World) (hr0 : Kd.C (Kd.int .i64) w A0 l0.length l0) (hc0 : l0.length ≤ c0) (h : qAK.f k l0 a1 = some r) :
  Calls Tryz.prog 159 #[.slice A0 l0.length c0, .int .i64 a1] w fun e w' => e = .returned (.int .i64 r) ∧ qAX w w' := by
 have HR0 := qA0.mk hr0
 have HC0 := qA0.mk hc0
 clear hr0 hc0
 have H := h
 unfold qAK.f at H
 clear h
 have H' := qA0.mk H
 clear H
 go_enter Tryz.func159, Tryz.ntmps159
 go_wp2
 go_loopg [8] k (fun kq v8 w' => ∃ (x8_1 : Int), v8 = .int .i64 x8_1 ∧ qA0 (qAK.l0 kq l0 a1 (l0.length : Int) x8_1 = some r) ∧ qA0 (kq ≤ k) ∧ qAX w w')
 case atStart => exact ⟨(0), zs, H', ⟨Nat.le_refl _⟩, by repeat (first | exact qAX.refl _ | apply qAX.step)⟩
 clear H'
 obtain ⟨x8_1, rfl, HA, HK1, ⟨m1, rfl⟩⟩ := hrel
 obtain _ | k1 := gk
 ·exact absurd HA.out (by simp [qAK.l0])
 have H := HA.out
 clear HA
 simp only [qAK.l0] at H
 by_cases c3 : x8_1 < (l0.length : Int)
 rotate_left
 ·rw [if_neg c3] at H
  have c3b0 := decide_eq_false c3
  clear c3
  obtain rfl := Option.some.inj H
  go_wp2
  go_ret
  exact ⟨zs, zD⟩
 rw [if_pos c3] at H
 have c3b0 := decide_eq_true c3
 clear c3
 by_cases c4 : 0 ≤ x8_1
 rotate_left
 ·rw [if_neg c4] at H
  cases H
 rw [if_pos c4] at H
 have c4b0 := decide_eq_true c4
 clear c4
 by_cases c5 : x8_1 < (l0.length : Int)
 rotate_left
 ·rw [if_neg c5] at H
  cases H
 rw [if_pos c5] at H
 have c5b0 := decide_eq_true c5
 clear c5
 by_cases c6 : a1 = (rd l0 x8_1)
 ·rw [if_pos c6] at H
  have ⟨c6b0, c6b1⟩ := ze c6
  clear c6
  obtain rfl := Option.some.inj H
  have p150 : 0 ≤ (x8_1 : Int) := zd
  have q150 : x8_1 < (l0.length : Int) := zd
  obtain ⟨ad150, e150, hx150_0⟩ := Kd.qC2 HR0.out x8_1 p150 q150
  cases e150
  replace p150 := eq_true p150
  replace q150 := eq_true q150
  go_wp2
  go_ret
  exact ⟨zs, zD⟩
 rw [if_neg c6] at H
 have ⟨c6b0, c6b1⟩ := zn c6
 have H' := qA0.mk H
 clear H
 have p150 : 0 ≤ (x8_1 : Int) := zd
 have q150 : x8_1 < (l0.length : Int) := zd
 obtain ⟨ad150, e150, hx150_0⟩ := Kd.qC2 HR0.out x8_1 p150 q150
 cases e150
 replace p150 := eq_true p150
 replace q150 := eq_true q150
 go_wp2
 go_roundg k1
 case measure => have := HK1.out; omega
 case rel => exact ⟨(wrap64 (x8_1 + 1)), zs, H', ⟨by have := HK1.out; omega⟩, by repeat (first | exact qAX.refl _ | apply qAX.step)⟩
def qAY.f (k : Nat) (l0 : List Int) (a1 : Int) : Option (Bool) := (qAK.f k l0 a1).bind fun t151 => (some (decide (t151 ≥ 0)))
theorem qAY.mono : ∀ a0 a1 k, LeO (qAY.f k a0 a1) (qAY.f (k + 1) a0 a1) := by
 intro a0 a1 k
 unfold qAY.f
 have im0 := @qAK.mono
 exact zm
theorem qAY.calls (k : Nat) (A0 : Option Addr) (c0 : Nat) (l0 : List Int) (a1 : Int) (r : Bool) (w : World) (hr0 : Kd.C (Kd.int .i64) w A0 l0.length l0) (hc0 : l0.length ≤ c0) (h : qAY.f k l0 a1 = some r) :
  Calls Tryz.prog 142 #[.slice A0 l0.length c0, .int .i64 a1] w fun e w' => e = .returned (.bool r) ∧ qAX w w' := by
 have HR0 := qA0.mk hr0
 have HC0 := qA0.mk hc0
 clear hr0 hc0
 have H := h
 unfold qAY.f at H
 clear h
 replace H := zi H
 obtain ⟨t151, A30, H⟩ := H
 have A3 := qA0.mk A30
 clear A30
 obtain rfl := Option.some.inj H
 go_enter Tryz.func142, Tryz.ntmps142
 go_wp2_with (((with_reducible refine qA6 (f := 159) rfl ?_); refine qBP (some 7) Tryz.func159 #[.slice A0 l0.length c0, .int .i64 a1] ?_; (with_reducible refine (qAK.calls k _ _ l0 a1 t151 _ ?side1 ?side2 A3.out).mono ?_); (case side1 => repeat (first | exact HR0.out | refine sC ?_)); (case side2 => exact HC0.out); rintro e w' ⟨rfl, ⟨nd, rfl⟩⟩; refine ⟨_, rfl, ?_⟩))
 go_ret
 exact ⟨zs, zD⟩
mutual
def qAZ.l0 : Nat → List (S66) → List Int → List (S66) → Int → Int → Option (Int)
 | 0, _, _, _, _, _ => none
 | k + 1, x0, x3, x18, x19, x20 => if x20 < x19 then (if 0 ≤ x20 then (if x20 < (x18.length : Int) then ((qEZ.f ((qA3 x18 x20).f0) ((qA3 x18 x20).f1) ((qA3 x18 x20).f2) ((qA3 x18 x20).f3) ((qA3 x18 x20).f4) x20).bind fun t162 => (if t162 = 0 then (qAZ.l1 k x0 x3 x18 x19 x20 ((qA3 x18 x20).f1) (((qA3 x18 x20).f1).length : Int) 0) else (some t162))) else (none)) else (none)) else (if 0 ≤ (wrap64 ((x0.length : Int) - 1)) then (if (wrap64 ((x0.length : Int) - 1)) ≤ (x3.length : Int) then ((qAY.f k (x3.take ((wrap64 ((x0.length : Int) - 1)) : Int).toNat) 0).bind fun t159 => (if t159 = true then (some 3) else (some 0))) else (none)) else (none))
def qAZ.l1 : Nat → List (S66) → List Int → List (S66) → Int → Int → List Int → Int → Int → Option (Int)
 | 0, _, _, _, _, _, _, _, _ => none
 | k + 1, x0, x3, x18, x19, x20, x32, x33, x34 => if x34 < x33 then (if 0 ≤ x34 then (if x34 < (x32.length : Int) then (if 0 ≤ (rd x32 x34) then (if (rd x32 x34) < (x3.length : Int) then ((some (x3.set ((rd x32 x34) : Int).toNat (wrap64 ((rd x3 (rd x32 x34)) + 1)) : List Int)).bind fun y165 => (if (rd y165 (rd x32 x34)) > 1 then (some 3) else (qAZ.l1 k x0 y165 x18 x19 x20 x32 x33 (wrap64 (x34 + 1))))) else (none)) else (none)) else (none)) else (none)) else (qAZ.l0 k x0 x3 x18 x19 (wrap64 (x20 + 1)))
end
def qAZ.f (k : Nat) (l0 : List (S66)) : Option (Int) := if (l0.length : Int) > 100 then (some 2) else (if (l0.length : Int) = 0 then (some 4) else (if 0 ≤ (l0.length : Int) then (if ((l0.length : Int) : Int).toNat ≤ 35184372088832 then (qAZ.l0 k l0 (List.replicate ((l0.length : Int) : Int).toNat 0) l0 (l0.length : Int) 0) else (none)) else (none)))
theorem qAZ.qC6 : ∀ k, (∀ y0 y1 y2 y3 y4, LeO (qAZ.l0 k y0 y1 y2 y3 y4) (qAZ.l0 (k + 1) y0 y1 y2 y3 y4)) ∧ (∀ y0 y1 y2 y3 y4 y5 y6 y7, LeO (qAZ.l1 k y0 y1 y2 y3 y4 y5 y6 y7) (qAZ.l1 (k + 1) y0 y1 y2 y3 y4 y5 y6 y7))
 | 0 => ⟨fun _ _ _ _ _ r h => by simp [qAZ.l0] at h, fun _ _ _ _ _ _ _ _ r h => by simp [qAZ.l1] at h⟩
 | k + 1 => by
  obtain ⟨ih0, ih1⟩ := qAZ.qC6 k
  refine ⟨?_, ?_⟩
  ·intro y0 y1 y2 y3 y4
   unfold qAZ.l0
   have im0 := @qAY.mono
   exact zm
  ·intro y0 y1 y2 y3 y4 y5 y6 y7
   unfold qAZ.l1
   have im0 := @qAY.mono
   exact zm
theorem qAZ.mono : ∀ a0 k, LeO (qAZ.f k a0) (qAZ.f (k + 1) a0) := by
 intro a0 k
 obtain ⟨ih0, ih1⟩ := qAZ.qC6 k
 unfold qAZ.f
 have im0 := @qAY.mono
 exact zm
theorem qAZ.calls (k : Nat) (A0 : Option Addr) (c0 : Nat) (l0 : List (S66)) (r : Int) (w : World) (hr0 : Kd.C k66 w A0 l0.length l0) (hc0 : l0.length ≤ c0) (h : qAZ.f k l0 = some r) :
  Calls Tryz.prog 110 #[.slice A0 l0.length c0] w fun e w' => e = .returned (.int .i64 r) ∧ Below w.heap.size w w' := by
 have hu66 := Tryz.underlying66
 have HR0 := qA0.mk hr0
 have HC0 := qA0.mk hc0
 clear hr0 hc0
 have HB := qA0.mk (Below.refl w.heap.size w)
 have H := h
 unfold qAZ.f at H
 clear h
 by_cases c2 : (l0.length : Int) > 100
 ·rw [if_pos c2] at H
  have c2b0 := decide_eq_true c2
  have c2b1 : decide (100 < l0.length) = true := decide_eq_true (by omega)
  clear c2
  obtain rfl := Option.some.inj H
  go_enter Tryz.func110, Tryz.ntmps110
  go_wp2
  go_ret
  exact ⟨zf, zb⟩
 rw [if_neg c2] at H
 have c2b0 := decide_eq_false c2
 have c2b1 : decide (100 < l0.length) = false := decide_eq_false (by omega)
 clear c2
 by_cases c3 : (l0.length : Int) = 0
 ·rw [if_pos c3] at H
  have ⟨c3b0, c3b1⟩ := ze c3
  clear c3
  obtain rfl := Option.some.inj H
  go_enter Tryz.func110, Tryz.ntmps110
  go_wp2
  go_ret
  exact ⟨zf, zb⟩
 rw [if_neg c3] at H
 have ⟨c3b0, c3b1⟩ := zn c3
 have c3b2 : ¬ (l0 = []) := fun h_ => c3 (by rw [h_]; rfl)
 by_cases c4 : 0 ≤ (l0.length : Int)
 rotate_left
 ·rw [if_neg c4] at H
  cases H
 rw [if_pos c4] at H
 have c4b0 := eq_true c4
 have c4b1 := decide_eq_true c4
 clear c4
 by_cases c5 : ((l0.length : Int) : Int).toNat ≤ 35184372088832
 rotate_left
 ·rw [if_neg c5] at H
  cases H
 rw [if_pos c5] at H
 have c5b0 := eq_true c5
 have c5b1 := decide_eq_true c5
 clear c5
 obtain ⟨y152, hy_⟩ : ∃ y_ : List Int, y_ = (List.replicate ((l0.length : Int) : Int).toNat 0) := ⟨_, rfl⟩
 replace H : (qAZ.l0 k l0 y152 l0 (l0.length : Int) 0) = some r := zr
 have Ny152 := qA0.mk hy_
 clear hy_
 have H' := qA0.mk H
 clear H
 go_enter Tryz.func110, Tryz.ntmps110
 go_wp2_with (((with_reducible refine qA9 (N := 17) rfl ?_); refine Kd.R_make (Kd.int .i64) _ 3 rfl (N := 17) rfl 24 _ _ rfl (l0.length : Int) rfl rfl Tryz.underlying24 (.int .i64 0) 8 info3 rfl (by decide) (by omega) 0 (ok := fun _ => True) (okp := fun _ => True) rfl (fun _ hk => hk) trivial (zd) (Nat.le_trans (Nat.mul_le_mul_right _ (zd : (l0.length : Int).toNat ≤ 35184372088832)) (by omega)) (Below.refl _ _) (Nat.le_refl _) ?_; intro v153 w6 ho7 hb hg_ hnew_; clear hg_ hnew_; (first | rw [← Ny152.out] at ho7 | (simp only [Int.reduceToNat] at ho7; rw [← Ny152.out] at ho7)); have HO154 := qA0.mk (Kd.qCI ho7 (qAI zb)); replace HB := zB hb; clear hb ho7))
 go_loopg [20] k (fun kq v20 w' => ∃ (x3_1 : List Int) (x20_1 : Int), v20 = .int .i64 x20_1 ∧ qA0 (qAZ.l0 kq l0 x3_1 l0 (l0.length : Int) x20_1 = some r) ∧ qA0 (kq ≤ k) ∧ qA0 (Kd.R (Kd.int .i64) 3 w' w.heap.size (fun _ => True) v153 x3_1) ∧ qA0 (Below w.heap.size w w'))
 case atStart => exact ⟨(y152), (0), zs, H', ⟨Nat.le_refl _⟩, zR HO154, ⟨zb⟩⟩
 clear H' c2b0 c2b1 c3 c3b0 c3b1 c3b2 c4b0 c4b1 c5b0 c5b1
 obtain ⟨x3_1, x20_1, rfl, HA, HK1, HO_3, HB⟩ := hrel
 obtain _ | k1 := gk
 ·exact absurd HA.out (by simp [qAZ.l0])
 have H := HA.out
 clear HA
 simp only [qAZ.l0] at H
 by_cases c8 : x20_1 < (l0.length : Int)
 rotate_left
 ·rw [if_neg c8] at H
  have c8b0 := decide_eq_false c8
  clear c8
  obtain ⟨ji33, hji33⟩ : ∃ j_ : Int, (wrap64 ((l0.length : Int) - 1)) = j_ := ⟨_, rfl⟩
  replace H : (if 0 ≤ (ji33) then (if (ji33) ≤ (x3_1.length : Int) then ((qAY.f k1 (x3_1.take ((ji33) : Int).toNat) 0).bind fun t159 => (if t159 = true then (some 3) else (some 0))) else (none)) else (none)) = some r := by first | (rw [hji33] at H; exact H) | (simp only [hji33] at H ⊢; exact H)
  have hji33w : (IntKind.i64.wrap ((l0.length : Int) - 1)) = ji33 := (qC9 _).trans hji33
  by_cases c34 : 0 ≤ (ji33)
  rotate_left
  ·rw [if_neg c34] at H
   cases H
  rw [if_pos c34] at H
  have c34b0 := eq_true c34
  have c34b1 := decide_eq_true c34
  clear c34
  by_cases c35 : (ji33) ≤ (x3_1.length : Int)
  rotate_left
  ·rw [if_neg c35] at H
   cases H
  rw [if_pos c35] at H
  have c35b0 := eq_true c35
  have c35b1 := decide_eq_true c35
  clear c35
  obtain ⟨y155, hy_⟩ : ∃ y_ : List Int, y_ = (x3_1.take ((ji33) : Int).toNat) := ⟨_, rfl⟩
  replace H : ((qAY.f k1 y155 0).bind fun t159 => (if t159 = true then (some 3) else (some 0))) = some r := zr
  have Ny155 := qA0.mk hy_
  clear hy_
  replace H := zi H
  obtain ⟨t159, A360, H⟩ := H
  have A36 := qA0.mk A360
  clear A360
  by_cases c37 : t159 = true
  ·subst c37
   rw [if_pos rfl] at H
   obtain rfl := Option.some.inj H
   obtain ⟨Ao39, co39, eo39⟩ := Kd.qBV HO_3.out
   subst eo39
   have q38 : ((ji33) : Int) ≤ ((x3_1.length : Int) : Int) := zd
   obtain ⟨i038, hi038, _, hsz38, _⟩ := info_parts info3
   have hroom38 : x3_1.length ≤ co39 := (Kd.qB3 HO_3.out).2.1
   have hC38 : Kd.C (Kd.int .i64) _ Ao39 x3_1.length x3_1 := (Kd.qB3 HO_3.out).2.2
   have hcut38 := cut_to (P := Tryz.prog) 24 3 .i64 Tryz.underlying24 hi038 Ao39 x3_1.length co39 (ji33) (zd) q38 hroom38
   have hr38 := Kd.C_take (m := ((ji33) : Int).toNat) hC38 (by omega)
   have hy38 : y155.length = ((ji33) : Int).toNat := (by rw [Ny155.out, List.length_take]; omega)
   rw [← Ny155.out] at hr38
   rw [← hy38] at hcut38
   have HR158 := qA0.mk hr38
   have HC158 := qA0.mk (show y155.length ≤ co39 from by omega)
   clear hr38 hC38 hroom38 hi038 hsz38
   have KY38 := qA0.mk hy38
   clear hy38
   have KL38 := qA0.mk (show ((ji33) : Int).toNat ≤ x3_1.length from by omega)
   replace q38 := eq_true q38
   go_wp2_with (((with_reducible refine qA6 (f := 142) rfl ?_); refine qBP (some 56) Tryz.func142 #[.slice Ao39 y155.length co39, .int .i64 0] ?_; (with_reducible refine (qAY.calls k1 _ _ y155 0 true _ ?side1 ?side2 A36.out).mono ?_); (case side1 => repeat (first | exact (by repeat (first | (with_reducible exact HR158.out) | (with_reducible refine Kd.C_alloc ?_ _) | (with_reducible refine Kd.C_drewN ?_ _) | (with_reducible refine Kd.C_drew ?_) | exact HR158.out)) | (with_reducible refine Kd.C_alloc ?_ _) | (with_reducible refine Kd.C_drewN ?_ _) | (with_reducible refine Kd.C_drew ?_))); (case side2 => exact HC158.out); rintro e w' ⟨rfl, ⟨nd, rfl⟩⟩; refine ⟨_, rfl, ?_⟩))
   go_ret
   exact ⟨by first | rfl | (simp [qDI, qDH] <;> rfl) | (simp only [← hji33]; first | rfl | (simp [qDI, qDH] <;> rfl)) | (simp [*, qDI, qDH] <;> rfl), zb⟩
  replace c37 := Bool.eq_false_iff.mpr c37
  subst c37
  rw [zj] at H
  obtain rfl := Option.some.inj H
  obtain ⟨Ao41, co41, eo41⟩ := Kd.qBV HO_3.out
  subst eo41
  have q40 : ((ji33) : Int) ≤ ((x3_1.length : Int) : Int) := zd
  obtain ⟨i040, hi040, _, hsz40, _⟩ := info_parts info3
  have hroom40 : x3_1.length ≤ co41 := (Kd.qB3 HO_3.out).2.1
  have hC40 : Kd.C (Kd.int .i64) _ Ao41 x3_1.length x3_1 := (Kd.qB3 HO_3.out).2.2
  have hcut40 := cut_to (P := Tryz.prog) 24 3 .i64 Tryz.underlying24 hi040 Ao41 x3_1.length co41 (ji33) (zd) q40 hroom40
  have hr40 := Kd.C_take (m := ((ji33) : Int).toNat) hC40 (by omega)
  have hy40 : y155.length = ((ji33) : Int).toNat := (by rw [Ny155.out, List.length_take]; omega)
  rw [← Ny155.out] at hr40
  rw [← hy40] at hcut40
  have HR158 := qA0.mk hr40
  have HC158 := qA0.mk (show y155.length ≤ co41 from by omega)
  clear hr40 hC40 hroom40 hi040 hsz40
  have KY40 := qA0.mk hy40
  clear hy40
  have KL40 := qA0.mk (show ((ji33) : Int).toNat ≤ x3_1.length from by omega)
  replace q40 := eq_true q40
  go_wp2_with (((with_reducible refine qA6 (f := 142) rfl ?_); refine qBP (some 56) Tryz.func142 #[.slice Ao41 y155.length co41, .int .i64 0] ?_; (with_reducible refine (qAY.calls k1 _ _ y155 0 false _ ?side1 ?side2 A36.out).mono ?_); (case side1 => repeat (first | exact (by repeat (first | (with_reducible exact HR158.out) | (with_reducible refine Kd.C_alloc ?_ _) | (with_reducible refine Kd.C_drewN ?_ _) | (with_reducible refine Kd.C_drew ?_) | exact HR158.out)) | (with_reducible refine Kd.C_alloc ?_ _) | (with_reducible refine Kd.C_drewN ?_ _) | (with_reducible refine Kd.C_drew ?_))); (case side2 => exact HC158.out); rintro e w' ⟨rfl, ⟨nd, rfl⟩⟩; refine ⟨_, rfl, ?_⟩))
  go_ret
  exact ⟨by first | rfl | (simp [qDI, qDH] <;> rfl) | (simp only [← hji33]; first | rfl | (simp [qDI, qDH] <;> rfl)) | (simp [*, qDI, qDH] <;> rfl), zb⟩
 rw [if_pos c8] at H
 have c8b0 := decide_eq_true c8
 clear c8
 by_cases c9 : 0 ≤ x20_1
 rotate_left
 ·rw [if_neg c9] at H
  cases H
 rw [if_pos c9] at H
 have c9b0 := decide_eq_true c9
 clear c9
 by_cases c10 : x20_1 < (l0.length : Int)
 rotate_left
 ·rw [if_neg c10] at H
  cases H
 rw [if_pos c10] at H
 have c10b0 := decide_eq_true c10
 clear c10
 replace H := zi H
 obtain ⟨t162, A110, H⟩ := H
 have A11 := qA0.mk A110
 clear A110
 by_cases c12 : t162 = 0
 rotate_left
 ·rw [if_neg c12] at H
  have ⟨c12b0, c12b1⟩ := zn c12
  obtain rfl := Option.some.inj H
  have p160 : 0 ≤ (x20_1 : Int) := zd
  have q160 : x20_1 < (l0.length : Int) := zd
  obtain ⟨ad160, A160_1, c160_1, e160, hx160_0, hx160_1, hx160_2, hx160_3, hx160_4, hl160_1, hi160_1⟩ := at_T66 HR0.out x20_1 p160 q160
  cases e160
  (try replace hx160_0 := zh hx160_0)
  replace hx160_1 := zh hx160_1
  replace hx160_2 := zh hx160_2
  replace hx160_3 := zh hx160_3
  replace hx160_4 := zh hx160_4
  have HR160_1 := qA0.mk hi160_1
  have HC160_1 := qA0.mk hl160_1
  clear hi160_1 hl160_1
  replace p160 := eq_true p160
  replace q160 := eq_true q160
  go_wp2_with (first | ((with_reducible refine qA9 (N := 5) rfl ?_); refine boxZ 5 #[.int .i64 0, .slice none 0 0, .int .i64 0, .int .i64 0, .string (⟨#[]⟩ : ByteArray)] 66 ?_; intro gb161 hg w30 hbox hb; have BK161 := qA0.mk (hbox); have GW161 := zg w gb161; have GE161 := zg w gb161; replace HO_3 := qA0.mk (Kd.qBN (by (with_reducible repeat refine sR ?_); exact HO_3.out) hb); replace HB := zB hb; clear hb hbox hg; obtain ⟨hcz31_0, hcz31_1, hcz31_2, hcz31_3, hcz31_4, hfz31_0, hfz31_1, hfz31_2, hfz31_3, hfz31_4⟩ := bc5 BK161.out) | ((with_reducible refine qA6 (f := 141) rfl ?_); refine qBP (some 27) Tryz.func141 #[.agg #[.int .i64 ((qA3 l0 x20_1).f0), .slice A160_1 ((qA3 l0 x20_1).f1).length c160_1, .int .i64 ((qA3 l0 x20_1).f2), .int .i64 ((qA3 l0 x20_1).f3), .string ((qA3 l0 x20_1).f4)], .int .i64 x20_1] ?_; (with_reducible refine (qEZ.calls ((qA3 l0 x20_1).f0) _ _ ((qA3 l0 x20_1).f1) ((qA3 l0 x20_1).f2) ((qA3 l0 x20_1).f3) ((qA3 l0 x20_1).f4) x20_1 t162 _ ?side1 ?side2 A11.out).mono ?_); (case side1 => exact Kd.qAE HR160_1.out zb); (case side2 => exact HC160_1.out); rintro e w32 ⟨rfl, hb⟩; refine ⟨_, rfl, ?_⟩; replace HO_3 := qA0.mk (Kd.qBN (by (with_reducible repeat refine sR ?_); exact (zRf5 (Kd.qBG HO_3.out BK161.out (by decide)))) hb); replace BK161 := qA0.mk (qAL (zp5 BK161) hb); replace HB := zB hb; (try clear hb hk); (try clear hb)))
  go_ret
  exact ⟨zf, zb⟩
 rw [if_pos c12] at H
 have ⟨c12b0, c12b1⟩ := ze c12
 clear c12
 have H' := qA0.mk H
 clear H
 have p160 : 0 ≤ (x20_1 : Int) := zd
 have q160 : x20_1 < (l0.length : Int) := zd
 obtain ⟨ad160, A160_1, c160_1, e160, hx160_0, hx160_1, hx160_2, hx160_3, hx160_4, hl160_1, hi160_1⟩ := at_T66 HR0.out x20_1 p160 q160
 cases e160
 (try replace hx160_0 := zh hx160_0)
 replace hx160_1 := zh hx160_1
 replace hx160_2 := zh hx160_2
 replace hx160_3 := zh hx160_3
 replace hx160_4 := zh hx160_4
 have HR160_1 := qA0.mk hi160_1
 have HC160_1 := qA0.mk hl160_1
 clear hi160_1 hl160_1
 replace p160 := eq_true p160
 replace q160 := eq_true q160
 go_wp2_with (first | ((with_reducible refine qA9 (N := 5) rfl ?_); refine boxZ 5 #[.int .i64 0, .slice none 0 0, .int .i64 0, .int .i64 0, .string (⟨#[]⟩ : ByteArray)] 66 ?_; intro gb161 hg w13 hbox hb; have BK161 := qA0.mk (hbox); have GW161 := zg w gb161; have GE161 := zg w gb161; replace HO_3 := qA0.mk (Kd.qBN (by (with_reducible repeat refine sR ?_); exact HO_3.out) hb); replace HB := zB hb; clear hb hbox hg; obtain ⟨hcz14_0, hcz14_1, hcz14_2, hcz14_3, hcz14_4, hfz14_0, hfz14_1, hfz14_2, hfz14_3, hfz14_4⟩ := bc5 BK161.out) | ((with_reducible refine qA6 (f := 141) rfl ?_); refine qBP (some 27) Tryz.func141 #[.agg #[.int .i64 ((qA3 l0 x20_1).f0), .slice A160_1 ((qA3 l0 x20_1).f1).length c160_1, .int .i64 ((qA3 l0 x20_1).f2), .int .i64 ((qA3 l0 x20_1).f3), .string ((qA3 l0 x20_1).f4)], .int .i64 x20_1] ?_; (with_reducible refine (qEZ.calls ((qA3 l0 x20_1).f0) _ _ ((qA3 l0 x20_1).f1) ((qA3 l0 x20_1).f2) ((qA3 l0 x20_1).f3) ((qA3 l0 x20_1).f4) x20_1 t162 _ ?side1 ?side2 A11.out).mono ?_); (case side1 => exact Kd.qAE HR160_1.out zb); (case side2 => exact HC160_1.out); rintro e w15 ⟨rfl, hb⟩; refine ⟨_, rfl, ?_⟩; replace HO_3 := qA0.mk (Kd.qBN (by (with_reducible repeat refine sR ?_); exact (zRf5 (Kd.qBG HO_3.out BK161.out (by decide)))) hb); replace BK161 := qA0.mk (qAL (zp5 BK161) hb); replace HB := zB hb; (try clear hb hk); (try clear hb); obtain ⟨hcz16_0, hcz16_1, hcz16_2, hcz16_3, hcz16_4, hfz16_0, hfz16_1, hfz16_2, hfz16_3, hfz16_4⟩ := bc5 BK161.out))
 go_loopg [34] k1 (fun kq v34 w' => ∃ (x3_2 : List Int) (x34_2 : Int), v34 = .int .i64 x34_2 ∧ qA0 (qAZ.l1 kq l0 x3_2 l0 (l0.length : Int) x20_1 ((qA3 l0 x20_1).f1) (((qA3 l0 x20_1).f1).length : Int) x34_2 = some r) ∧ qA0 (kq ≤ k1) ∧ qA0 (Kd.R (Kd.int .i64) 3 w' w.heap.size (fun _ => True) v153 x3_2) ∧ qA0 (w'.heap[gb161]? = some (.cells #[.int .i64 ((qA3 l0 x20_1).f0), (.slice A160_1 ((qA3 l0 x20_1).f1).length c160_1), .int .i64 ((qA3 l0 x20_1).f2), .int .i64 ((qA3 l0 x20_1).f3), .string ((qA3 l0 x20_1).f4)] 66 (0, 0))) ∧ qA0 (Below w.heap.size w w'))
 case atStart => exact ⟨(x3_1), (0), zs, H', ⟨Nat.le_refl _⟩, zR HO_3, ⟨zk BK161⟩, ⟨zb⟩⟩
 clear H' c8b0 c9b0 c10b0 c12b0 c12b1 hcz14_0 hcz14_1 hcz14_2 hcz14_3 hcz14_4 hcz16_0 hcz16_1 hcz16_2 hcz16_3 hcz16_4 hfz14_0 hfz14_1 hfz14_2 hfz14_3 hfz14_4 hfz16_0 hfz16_1 hfz16_2 hfz16_3 hfz16_4 hx160_0 hx160_1 hx160_2 hx160_3 hx160_4 p160 q160
 obtain ⟨x3_2, x34_2, rfl, HA, HK2, HO_3, BK161, HB⟩ := hrel
 obtain _ | k2 := gk
 ·exact absurd HA.out (by simp [qAZ.l1])
 have H := HA.out
 clear HA
 simp only [qAZ.l1] at H
 by_cases c17 : x34_2 < (((qA3 l0 x20_1).f1).length : Int)
 rotate_left
 ·rw [if_neg c17] at H
  have c17b0 := decide_eq_false c17
  clear c17
  have H' := qA0.mk H
  clear H
  go_wp2
  go_roundg k2
  case measure => have := HK1.out; have := HK2.out; omega
  case rel => exact ⟨(x3_2), (wrap64 (x20_1 + 1)), zs, H', ⟨by have := HK1.out; have := HK2.out; omega⟩, zR HO_3, ⟨zb⟩⟩
 rw [if_pos c17] at H
 have c17b0 := decide_eq_true c17
 clear c17
 by_cases c18 : 0 ≤ x34_2
 rotate_left
 ·rw [if_neg c18] at H
  cases H
 rw [if_pos c18] at H
 have c18b0 := decide_eq_true c18
 clear c18
 by_cases c19 : x34_2 < (((qA3 l0 x20_1).f1).length : Int)
 rotate_left
 ·rw [if_neg c19] at H
  cases H
 rw [if_pos c19] at H
 have c19b0 := decide_eq_true c19
 clear c19
 by_cases c20 : 0 ≤ (rd ((qA3 l0 x20_1).f1) x34_2)
 rotate_left
 ·rw [if_neg c20] at H
  cases H
 rw [if_pos c20] at H
 have c20b0 := decide_eq_true c20
 clear c20
 by_cases c21 : (rd ((qA3 l0 x20_1).f1) x34_2) < (x3_2.length : Int)
 rotate_left
 ·rw [if_neg c21] at H
  cases H
 rw [if_pos c21] at H
 have c21b0 := decide_eq_true c21
 clear c21
 obtain ⟨y165, hy_⟩ : ∃ y_ : List Int, y_ = (x3_2.set ((rd ((qA3 l0 x20_1).f1) x34_2) : Int).toNat (wrap64 ((rd x3_2 (rd ((qA3 l0 x20_1).f1) x34_2)) + 1))) := ⟨_, rfl⟩
 replace H : (if (rd y165 (rd ((qA3 l0 x20_1).f1) x34_2)) > 1 then (some 3) else (qAZ.l1 k2 l0 y165 l0 (l0.length : Int) x20_1 ((qA3 l0 x20_1).f1) (((qA3 l0 x20_1).f1).length : Int) (wrap64 (x34_2 + 1)))) = some r := zr
 have Ny165 := qA0.mk hy_
 clear hy_
 by_cases c23 : (rd y165 (rd ((qA3 l0 x20_1).f1) x34_2)) > 1
 ·rw [if_pos c23] at H
  have c23b0 := decide_eq_true c23
  clear c23
  obtain rfl := Option.some.inj H
  have p163 : 0 ≤ (x34_2 : Int) := zd
  have q163 : x34_2 < (((qA3 l0 x20_1).f1).length : Int) := zd
  obtain ⟨ad163, e163, hx163_0⟩ := Kd.qC2 HR160_1.out x34_2 p163 q163
  cases e163
  (try replace hx163_0 := zh hx163_0)
  replace p163 := eq_true p163
  replace q163 := eq_true q163
  obtain ⟨Ao24, co24, eo24⟩ := Kd.qBV HO_3.out
  subst eo24
  have p164 : 0 ≤ ((rd ((qA3 l0 x20_1).f1) x34_2) : Int) := zd
  have q164 : (rd ((qA3 l0 x20_1).f1) x34_2) < (x3_2.length : Int) := zd
  obtain ⟨ad164, e164, hx164_0⟩ := Kd.qC2 (Kd.qB3 HO_3.out).2.2 (rd ((qA3 l0 x20_1).f1) x34_2) p164 q164
  cases e164
  replace p164 := eq_true p164
  replace q164 := eq_true q164
  have p22 : 0 ≤ ((rd ((qA3 l0 x20_1).f1) x34_2) : Int) := zd
  have q22 : ((rd ((qA3 l0 x20_1).f1) x34_2) : Int) < ((x3_2.length : Int) : Int) := zd
  obtain ⟨go22, co22, eo22, gb22, gl22, cl22, HG22⟩ := Kd.R_form HO_3.out (by omega)
  (first | cases eo22 | (injection eo22 with ea_ en_ ec_; (first | subst ea_ | (injection ea_ with ea_; subst ea_)); subst ec_; clear en_))
  have GB22 := qA0.mk gb22
  have GG22 := qA0.mk HG22
  clear gb22 gl22 HG22
  (first | simp only [add_plain] at hx164_0 | skip)
  obtain ⟨hx22_0, hf22_0⟩ := Kd.R_celln 0 HO_3.out ((rd ((qA3 l0 x20_1).f1) x34_2) : Int) p22 q22
  replace p22 := eq_true p22
  replace q22 := eq_true q22
  have HP25 := Kd.R_putg HO_3.out ((rd ((qA3 l0 x20_1).f1) x34_2) : Int) (wrap64 ((rd x3_2 (rd ((qA3 l0 x20_1).f1) x34_2)) + 1))
  go_wp2_with (((with_reducible refine qDP (t := 3) (p := 43) rfl ?_); refine qE8 (t := 3) (p := 43) (v := ?vo_w26) (w1 := (wr.setCell ⟨go22, ((rd ((qA3 l0 x20_1).f1) x34_2) : Int).toNat, none⟩ (.int .i64 (wrap64 ((rd x3_2 (rd ((qA3 l0 x20_1).f1) x34_2)) + 1))))) ?hg ?ho ?hn ?hr ?_; (case ho => rfl); (case hg => rfl); (case hn => rfl); (case hr => first | (go_simp; done) | (go_simp; rfl)); intro w26 hw; have hg : wr.grownBy w26 (some go22) := (by rw [hw]; exact HP25.2); have hp_ : Kd.R (Kd.int .i64) 3 w26 w.heap.size (fun _ => True) (.slice (some ⟨go22, 0, none⟩) x3_2.length co24) y165 := (by rw [hw, Ny165.out]; exact HP25.1); clear HP25; replace BK161 := qA0.mk (qAO (g := gb161) (o := .cells #[.int .i64 ((qA3 l0 x20_1).f0), .slice (some ad163) ((qA3 l0 x20_1).f1).length c160_1, .int .i64 ((qA3 l0 x20_1).f2), .int .i64 ((qA3 l0 x20_1).f3), .string ((qA3 l0 x20_1).f4)] 66 (0, 0)) (zk BK161) hg (Kd.R_ne HO_3.out BK161.out (by decide))); replace HO_3 := qA0.mk (hp_); replace HB := qA0.mk ((by rw [hw]; exact qA7 (HB.out) GB22.out : Below w.heap.size w w26)); clear hg hw hp_; have p166 : 0 ≤ ((rd ((qA3 l0 x20_1).f1) x34_2) : Int) := zd; have q166 : (rd ((qA3 l0 x20_1).f1) x34_2) < (y165.length : Int) := (by have h_ : ((rd ((qA3 l0 x20_1).f1) x34_2) : Int) < ((x3_2.length : Int) : Int) := zd; first | (have e_ := (Kd.qB3 HO_3.out).1; omega) | simpa only [Ny165.out, List.length_set] using h_); have ql166 : (((rd ((qA3 l0 x20_1).f1) x34_2) : Int) < ((x3_2.length : Int) : Int)) = True := eq_true (zd); obtain ⟨ad166, e166, hx166_0⟩ := Kd.qC2 (Kd.qB3 HO_3.out).2.2 (rd ((qA3 l0 x20_1).f1) x34_2) p166 q166; obtain rfl : (⟨go22, 0, none⟩ : Addr) = ad166 := (by injection e166); (first | simp only [add_plain] at hx166_0 | simp only [add_at] at hx166_0 | simp only [Addr.add, Nat.zero_add] at hx166_0 | skip); replace p166 := eq_true p166; replace q166 := eq_true q166))
  go_ret
  exact ⟨zf, zb⟩
 rw [if_neg c23] at H
 have c23b0 := decide_eq_false c23
 clear c23
 have H' := qA0.mk H
 clear H
 have p163 : 0 ≤ (x34_2 : Int) := zd
 have q163 : x34_2 < (((qA3 l0 x20_1).f1).length : Int) := zd
 obtain ⟨ad163, e163, hx163_0⟩ := Kd.qC2 HR160_1.out x34_2 p163 q163
 cases e163
 (try replace hx163_0 := zh hx163_0)
 replace p163 := eq_true p163
 replace q163 := eq_true q163
 obtain ⟨Ao27, co27, eo27⟩ := Kd.qBV HO_3.out
 subst eo27
 have p164 : 0 ≤ ((rd ((qA3 l0 x20_1).f1) x34_2) : Int) := zd
 have q164 : (rd ((qA3 l0 x20_1).f1) x34_2) < (x3_2.length : Int) := zd
 obtain ⟨ad164, e164, hx164_0⟩ := Kd.qC2 (Kd.qB3 HO_3.out).2.2 (rd ((qA3 l0 x20_1).f1) x34_2) p164 q164
 cases e164
 replace p164 := eq_true p164
 replace q164 := eq_true q164
 have p22 : 0 ≤ ((rd ((qA3 l0 x20_1).f1) x34_2) : Int) := zd
 have q22 : ((rd ((qA3 l0 x20_1).f1) x34_2) : Int) < ((x3_2.length : Int) : Int) := zd
 obtain ⟨go22, co22, eo22, gb22, gl22, cl22, HG22⟩ := Kd.R_form HO_3.out (by omega)
 (first | cases eo22 | (injection eo22 with ea_ en_ ec_; (first | subst ea_ | (injection ea_ with ea_; subst ea_)); subst ec_; clear en_))
 have GB22 := qA0.mk gb22
 have GG22 := qA0.mk HG22
 clear gb22 gl22 HG22
 (first | simp only [add_plain] at hx164_0 | skip)
 obtain ⟨hx22_0, hf22_0⟩ := Kd.R_celln 0 HO_3.out ((rd ((qA3 l0 x20_1).f1) x34_2) : Int) p22 q22
 replace p22 := eq_true p22
 replace q22 := eq_true q22
 have HP28 := Kd.R_putg HO_3.out ((rd ((qA3 l0 x20_1).f1) x34_2) : Int) (wrap64 ((rd x3_2 (rd ((qA3 l0 x20_1).f1) x34_2)) + 1))
 go_wp2_with (((with_reducible refine qDP (t := 3) (p := 43) rfl ?_); refine qE8 (t := 3) (p := 43) (v := ?vo_w29) (w1 := (wr.setCell ⟨go22, ((rd ((qA3 l0 x20_1).f1) x34_2) : Int).toNat, none⟩ (.int .i64 (wrap64 ((rd x3_2 (rd ((qA3 l0 x20_1).f1) x34_2)) + 1))))) ?hg ?ho ?hn ?hr ?_; (case ho => rfl); (case hg => rfl); (case hn => rfl); (case hr => first | (go_simp; done) | (go_simp; rfl)); intro w29 hw; have hg : wr.grownBy w29 (some go22) := (by rw [hw]; exact HP28.2); have hp_ : Kd.R (Kd.int .i64) 3 w29 w.heap.size (fun _ => True) (.slice (some ⟨go22, 0, none⟩) x3_2.length co27) y165 := (by rw [hw, Ny165.out]; exact HP28.1); clear HP28; replace BK161 := qA0.mk (qAO (g := gb161) (o := .cells #[.int .i64 ((qA3 l0 x20_1).f0), .slice (some ad163) ((qA3 l0 x20_1).f1).length c160_1, .int .i64 ((qA3 l0 x20_1).f2), .int .i64 ((qA3 l0 x20_1).f3), .string ((qA3 l0 x20_1).f4)] 66 (0, 0)) (zk BK161) hg (Kd.R_ne HO_3.out BK161.out (by decide))); replace HO_3 := qA0.mk (hp_); replace HB := qA0.mk ((by rw [hw]; exact qA7 (HB.out) GB22.out : Below w.heap.size w w29)); clear hg hw hp_; have p166 : 0 ≤ ((rd ((qA3 l0 x20_1).f1) x34_2) : Int) := zd; have q166 : (rd ((qA3 l0 x20_1).f1) x34_2) < (y165.length : Int) := (by have h_ : ((rd ((qA3 l0 x20_1).f1) x34_2) : Int) < ((x3_2.length : Int) : Int) := zd; first | (have e_ := (Kd.qB3 HO_3.out).1; omega) | simpa only [Ny165.out, List.length_set] using h_); have ql166 : (((rd ((qA3 l0 x20_1).f1) x34_2) : Int) < ((x3_2.length : Int) : Int)) = True := eq_true (zd); obtain ⟨ad166, e166, hx166_0⟩ := Kd.qC2 (Kd.qB3 HO_3.out).2.2 (rd ((qA3 l0 x20_1).f1) x34_2) p166 q166; obtain rfl : (⟨go22, 0, none⟩ : Addr) = ad166 := (by injection e166); (first | simp only [add_plain] at hx166_0 | simp only [add_at] at hx166_0 | simp only [Addr.add, Nat.zero_add] at hx166_0 | skip); replace p166 := eq_true p166; replace q166 := eq_true q166))
 go_roundg k2
 case measure => have := HK1.out; have := HK2.out; omega
 case rel => exact ⟨(y165), (wrap64 (x34_2 + 1)), zs, H', ⟨by have := HK1.out; have := HK2.out; omega⟩, zR HO_3, ⟨zk BK161⟩, ⟨zb⟩⟩
def qCF.f (a0 : Int) : Option (Bool) := if a0 > 0 then (some (decide (a0 ≤ 6))) else (some false)
theorem qCF.calls (a0 : Int) (r : Bool) (w : World) (h : qCF.f a0 = some r) :
  Calls Tryz.prog 114 #[.int .i64 a0] w fun e w' => e = .returned (.bool r) ∧ qAX w w' := by
 have H := h
 unfold qCF.f at H
 clear h
 by_cases c2 : a0 > 0
 rotate_left
 ·rw [if_neg c2] at H
  have c2b0 := decide_eq_false c2
  clear c2
  obtain rfl := Option.some.inj H
  go_enter Tryz.func114, Tryz.ntmps114
  go_wp2
  go_ret
  exact ⟨zs, zD⟩
 rw [if_pos c2] at H
 have c2b0 := decide_eq_true c2
 clear c2
 obtain rfl := Option.some.inj H
 go_enter Tryz.func114, Tryz.ntmps114
 go_wp2
 go_ret
 exact ⟨zs, zD⟩
mutual
def qB6.l0 : Nat → ByteArray → List (S76) → Int → Int → Option (Int × Bool)
 | 0, _, _, _, _ => none
 | k + 1, x1, x10, x11, x12 => if x12 < x11 then (if 0 ≤ x12 then (if x12 < (x10.length : Int) then (qB6.l1 k x1 x10 x11 x12 ((qAB x10 x12).f3) (((qAB x10 x12).f3).length : Int) 0) else (none)) else (none)) else (some (0, false))
def qB6.l1 : Nat → ByteArray → List (S76) → Int → Int → List (S60) → Int → Int → Option (Int × Bool)
 | 0, _, _, _, _, _, _, _ => none
 | k + 1, x1, x10, x11, x12, x17, x18, x19 => if x19 < x18 then (if 0 ≤ x19 then (if x19 < (x17.length : Int) then (if ((qBH x17 x19).f0).toList = x1.toList then (some ((qBH x17 x19).f1, true)) else (qB6.l1 k x1 x10 x11 x12 x17 x18 (wrap64 (x19 + 1)))) else (none)) else (none)) else (qB6.l0 k x1 x10 x11 (wrap64 (x12 + 1)))
end
def qB6.f (k : Nat) (l0 : List (S76)) (a1 : ByteArray) : Option (Int × Bool) := qB6.l0 k a1 l0 (l0.length : Int) 0
theorem qB6.qC6 : ∀ k, (∀ y0 y1 y2 y3, LeO (qB6.l0 k y0 y1 y2 y3) (qB6.l0 (k + 1) y0 y1 y2 y3)) ∧ (∀ y0 y1 y2 y3 y4 y5 y6, LeO (qB6.l1 k y0 y1 y2 y3 y4 y5 y6) (qB6.l1 (k + 1) y0 y1 y2 y3 y4 y5 y6))
 | 0 => ⟨fun _ _ _ _ r h => by simp [qB6.l0] at h, fun _ _ _ _ _ _ _ r h => by simp [qB6.l1] at h⟩
 | k + 1 => by
  obtain ⟨ih0, ih1⟩ := qB6.qC6 k
  refine ⟨?_, ?_⟩
  ·intro y0 y1 y2 y3
   unfold qB6.l0
   exact zm
  ·intro y0 y1 y2 y3 y4 y5 y6
   unfold qB6.l1
   exact zm
theorem qB6.mono : ∀ a0 a1 k, LeO (qB6.f k a0 a1) (qB6.f (k + 1) a0 a1) := by
 intro a0 a1 k
 obtain ⟨ih0, ih1⟩ := qB6.qC6 k
 unfold qB6.f
 exact zm
theorem qB6.calls (k : Nat) (A0 : Option Addr) (c0 : Nat) (l0 : List (S76)) (a1 : ByteArray) (r1 : Int) (r2 : Bool) (w : World) (hr0 : Kd.C k76 w A0 l0.length l0) (hc0 : l0.length ≤ c0) (h : qB6.f k l0 a1 = some (r1, r2)) :
  Calls Tryz.prog 143 #[.slice A0 l0.length c0, .string a1] w fun e w' => e = .returned (.tuple #[.int .i64 r1, .bool r2]) ∧ Below w.heap.size w w' := by
 have hu76 := Tryz.underlying76
 have hu60 := Tryz.underlying60
 have HR0 := qA0.mk hr0
 have HC0 := qA0.mk hc0
 clear hr0 hc0
 have HB := qA0.mk (Below.refl w.heap.size w)
 have H := h
 unfold qB6.f at H
 clear h
 have H' := qA0.mk H
 clear H
 go_enter Tryz.func143, Tryz.ntmps143
 go_wp2
 go_loopg [12] k (fun kq v12 w' => ∃ (x12_1 : Int), v12 = .int .i64 x12_1 ∧ qA0 (qB6.l0 kq a1 l0 (l0.length : Int) x12_1 = some (r1, r2)) ∧ qA0 (kq ≤ k) ∧ qA0 (Below w.heap.size w w'))
 case atStart => exact ⟨(0), zs, H', ⟨Nat.le_refl _⟩, ⟨zb⟩⟩
 clear H'
 obtain ⟨x12_1, rfl, HA, HK1, HB⟩ := hrel
 obtain _ | k1 := gk
 ·exact absurd HA.out (by simp [qB6.l0])
 have H := HA.out
 clear HA
 simp only [qB6.l0] at H
 by_cases c3 : x12_1 < (l0.length : Int)
 rotate_left
 ·rw [if_neg c3] at H
  have c3b0 := decide_eq_false c3
  clear c3
  simp only [Option.some.injEq, Prod.mk.injEq] at H
  obtain ⟨rfl, rfl⟩ := H
  go_wp2
  go_ret2
  exact ⟨zf, zb⟩
 rw [if_pos c3] at H
 have c3b0 := decide_eq_true c3
 clear c3
 by_cases c4 : 0 ≤ x12_1
 rotate_left
 ·rw [if_neg c4] at H
  cases H
 rw [if_pos c4] at H
 have c4b0 := decide_eq_true c4
 clear c4
 by_cases c5 : x12_1 < (l0.length : Int)
 rotate_left
 ·rw [if_neg c5] at H
  cases H
 rw [if_pos c5] at H
 have c5b0 := decide_eq_true c5
 clear c5
 have H' := qA0.mk H
 clear H
 have p167 : 0 ≤ (x12_1 : Int) := zd
 have q167 : x12_1 < (l0.length : Int) := zd
 obtain ⟨ad167, A167_3, c167_3, A167_4, c167_4, A167_5, c167_5, e167, hx167_0, hx167_1, hx167_2, hx167_3, hx167_4, hx167_5, hl167_3, hi167_3, hl167_4, hi167_4, hl167_5, hi167_5⟩ := at_T76 HR0.out x12_1 p167 q167
 cases e167
 (try replace hx167_0 := zh hx167_0)
 replace hx167_1 := zh hx167_1
 replace hx167_2 := zh hx167_2
 replace hx167_3 := zh hx167_3
 replace hx167_4 := zh hx167_4
 replace hx167_5 := zh hx167_5
 have HR167_3 := qA0.mk hi167_3
 have HC167_3 := qA0.mk hl167_3
 clear hi167_3 hl167_3
 have HR167_4 := qA0.mk hi167_4
 have HC167_4 := qA0.mk hl167_4
 clear hi167_4 hl167_4
 have HR167_5 := qA0.mk hi167_5
 have HC167_5 := qA0.mk hl167_5
 clear hi167_5 hl167_5
 replace p167 := eq_true p167
 replace q167 := eq_true q167
 go_wp2_with (((with_reducible refine qA9 (N := 7) rfl ?_); refine boxZ 7 #[.string (⟨#[]⟩ : ByteArray), .int .i64 0, .int .i64 0, .slice none 0 0, .slice none 0 0, .slice none 0 0] 76 ?_; intro gb168 hg w6 hbox hb; have BK168 := qA0.mk (hbox); have GW168 := zg w gb168; have GE168 := zg w gb168; replace HB := zB hb; clear hb hbox hg; obtain ⟨hcz7_0, hcz7_1, hcz7_2, hcz7_3, hcz7_4, hcz7_5, hfz7_0, hfz7_1, hfz7_2, hfz7_3, hfz7_4, hfz7_5⟩ := bc6 BK168.out))
 go_loopg [19] k1 (fun kq v19 w' => ∃ (x19_2 : Int), v19 = .int .i64 x19_2 ∧ qA0 (qB6.l1 kq a1 l0 (l0.length : Int) x12_1 ((qAB l0 x12_1).f3) (((qAB l0 x12_1).f3).length : Int) x19_2 = some (r1, r2)) ∧ qA0 (kq ≤ k1) ∧ qA0 (w'.heap[gb168]? = some (.cells #[.string ((qAB l0 x12_1).f0), .int .i64 ((qAB l0 x12_1).f1), .int .i64 ((qAB l0 x12_1).f2), (.slice A167_3 ((qAB l0 x12_1).f3).length c167_3), (.slice A167_4 ((qAB l0 x12_1).f4).length c167_4), (.slice A167_5 ((qAB l0 x12_1).f5).length c167_5)] 76 (0, 0))) ∧ qA0 (Below w.heap.size w w'))
 case atStart => exact ⟨(0), zs, H', ⟨Nat.le_refl _⟩, ⟨zp6 BK168⟩, ⟨zb⟩⟩
 clear H' c3b0 c4b0 c5b0 hcz7_0 hcz7_1 hcz7_2 hcz7_3 hcz7_4 hcz7_5 hfz7_0 hfz7_1 hfz7_2 hfz7_3 hfz7_4 hfz7_5 hx167_0 hx167_1 hx167_2 hx167_3 hx167_4 hx167_5 p167 q167
 obtain ⟨x19_2, rfl, HA, HK2, BK168, HB⟩ := hrel
 obtain _ | k2 := gk
 ·exact absurd HA.out (by simp [qB6.l1])
 have H := HA.out
 clear HA
 simp only [qB6.l1] at H
 by_cases c8 : x19_2 < (((qAB l0 x12_1).f3).length : Int)
 rotate_left
 ·rw [if_neg c8] at H
  have c8b0 := decide_eq_false c8
  clear c8
  have H' := qA0.mk H
  clear H
  go_wp2
  go_roundg k2
  case measure => have := HK1.out; have := HK2.out; omega
  case rel => exact ⟨(wrap64 (x12_1 + 1)), zs, H', ⟨by have := HK1.out; have := HK2.out; omega⟩, ⟨zb⟩⟩
 rw [if_pos c8] at H
 have c8b0 := decide_eq_true c8
 clear c8
 by_cases c9 : 0 ≤ x19_2
 rotate_left
 ·rw [if_neg c9] at H
  cases H
 rw [if_pos c9] at H
 have c9b0 := decide_eq_true c9
 clear c9
 by_cases c10 : x19_2 < (((qAB l0 x12_1).f3).length : Int)
 rotate_left
 ·rw [if_neg c10] at H
  cases H
 rw [if_pos c10] at H
 have c10b0 := decide_eq_true c10
 clear c10
 by_cases c11 : ((qBH ((qAB l0 x12_1).f3) x19_2).f0).toList = a1.toList
 rotate_left
 ·rw [if_neg c11] at H
  have ⟨c11b0, c11b1⟩ := zn c11
  have H' := qA0.mk H
  clear H
  have p169 : 0 ≤ (x19_2 : Int) := zd
  have q169 : x19_2 < (((qAB l0 x12_1).f3).length : Int) := zd
  obtain ⟨ad169, e169, hx169_0, hx169_1, hx169_2, hx169_3, hx169_4, hx169_5, hx169_6⟩ := at_T60 HR167_3.out x19_2 p169 q169
  cases e169
  (try replace hx169_0 := zh hx169_0)
  replace hx169_1 := zh hx169_1
  replace hx169_2 := zh hx169_2
  replace hx169_3 := zh hx169_3
  replace hx169_4 := zh hx169_4
  replace hx169_5 := zh hx169_5
  replace hx169_6 := zh hx169_6
  replace p169 := eq_true p169
  replace q169 := eq_true q169
  go_wp2_with (((with_reducible refine qA9 (N := 9) rfl ?_); refine boxZ 9 #[.string (⟨#[]⟩ : ByteArray), .int .i64 0, .bool false, .int .i64 0, .int .i64 0, .int .i64 0, .int .i64 0] 60 ?_; intro gb170 hg w15 hbox hb; have BK170 := qA0.mk (hbox); have GW170 := zg w gb170; have GE170 := zg w gb170; have NB168_170 := zl BK168 gb170; have NB170_168 := zu BK168 gb170; replace BK168 := zK BK168 hb; replace HB := zB hb; clear hb hbox hg; have hnb16 := NB170_168.out; have hnc16 := NB168_170.out; obtain ⟨hcz17_0, hcz17_1, hcz17_2, hcz17_3, hcz17_4, hcz17_5, hcz17_6, hfz17_0, hfz17_1, hfz17_2, hfz17_3, hfz17_4, hfz17_5, hfz17_6⟩ := bc7 BK170.out))
  go_roundg k2
  case measure => have := HK1.out; have := HK2.out; omega
  case rel => exact ⟨(wrap64 (x19_2 + 1)), zs, H', ⟨by have := HK1.out; have := HK2.out; omega⟩, ⟨by refine zf7 ?_ NB168_170; (with_reducible repeat refine st ?_); exact BK168.out⟩, ⟨zb⟩⟩
 rw [if_pos c11] at H
 have ⟨c11b0, c11b1⟩ := ze c11
 clear c11
 simp only [Option.some.injEq, Prod.mk.injEq] at H
 obtain ⟨rfl, rfl⟩ := H
 have p169 : 0 ≤ (x19_2 : Int) := zd
 have q169 : x19_2 < (((qAB l0 x12_1).f3).length : Int) := zd
 obtain ⟨ad169, e169, hx169_0, hx169_1, hx169_2, hx169_3, hx169_4, hx169_5, hx169_6⟩ := at_T60 HR167_3.out x19_2 p169 q169
 cases e169
 (try replace hx169_0 := zh hx169_0)
 replace hx169_1 := zh hx169_1
 replace hx169_2 := zh hx169_2
 replace hx169_3 := zh hx169_3
 replace hx169_4 := zh hx169_4
 replace hx169_5 := zh hx169_5
 replace hx169_6 := zh hx169_6
 replace p169 := eq_true p169
 replace q169 := eq_true q169
 go_wp2_with (((with_reducible refine qA9 (N := 9) rfl ?_); refine boxZ 9 #[.string (⟨#[]⟩ : ByteArray), .int .i64 0, .bool false, .int .i64 0, .int .i64 0, .int .i64 0, .int .i64 0] 60 ?_; intro gb170 hg w12 hbox hb; have BK170 := qA0.mk (hbox); have GW170 := zg w gb170; have GE170 := zg w gb170; have NB168_170 := zl BK168 gb170; have NB170_168 := zu BK168 gb170; replace BK168 := zK BK168 hb; replace HB := zB hb; clear hb hbox hg; have hnb13 := NB170_168.out; have hnc13 := NB168_170.out; obtain ⟨hcz14_0, hcz14_1, hcz14_2, hcz14_3, hcz14_4, hcz14_5, hcz14_6, hfz14_0, hfz14_1, hfz14_2, hfz14_3, hfz14_4, hfz14_5, hfz14_6⟩ := bc7 BK170.out))
 go_ret2
 exact ⟨zf, zb⟩
mutual
def qAT.j0 : Nat → Int → Bool → Int → List Int → Int → Int → ByteArray → Option (Int × Int)
 | 0, _, _, _, _, _, _, _ => none
 | k + 1, x6, x18, x172000, x172001, x172002, x172003, x172004 => if x18 = true then (some (x6, 0)) else (if x172000 = 3 then (qAT.j1 k x6 (x6 == 1) x172000 x172001 x172002 x172003 x172004) else (qAT.j1 k x6 false x172000 x172001 x172002 x172003 x172004))
def qAT.j1 : Nat → Int → Bool → Int → List Int → Int → Int → ByteArray → Option (Int × Int)
 | 0, _, _, _, _, _, _, _ => none
 | k + 1, x6, x27, x172000, x172001, x172002, x172003, x172004 => if x27 = true then (some (5, 0)) else (if x172000 = 2 then (if x6 = 2 then (some (x6, 0)) else (if x6 = 3 then (some (x6, 0)) else (if x6 = 5 then (some (x6, 0)) else (if x6 = 6 then (some (x6, 0)) else (some (0, 8)))))) else (some (0, 8)))
end
def qAT.f (k : Nat) (l0 : List (S76)) (a1_0 : Int) (l1_1 : List Int) (a1_2 : Int) (a1_3 : Int) (a1_4 : ByteArray) : Option (Int × Int) := (qB6.f k l0 a1_4).bind fun bt172 => (if bt172.2 = true then (if a1_0 = 1 then ((qCF.f bt172.1).bind fun t174 => (qAT.j0 k bt172.1 t174 a1_0 l1_1 a1_2 a1_3 a1_4)) else (qAT.j0 k bt172.1 false a1_0 l1_1 a1_2 a1_3 a1_4)) else (some (0, 15)))
theorem qAT.qC6 : ∀ k, (∀ y0 y1 y2 y3 y4 y5 y6, LeO (qAT.j0 k y0 y1 y2 y3 y4 y5 y6) (qAT.j0 (k + 1) y0 y1 y2 y3 y4 y5 y6)) ∧ (∀ y0 y1 y2 y3 y4 y5 y6, LeO (qAT.j1 k y0 y1 y2 y3 y4 y5 y6) (qAT.j1 (k + 1) y0 y1 y2 y3 y4 y5 y6))
 | 0 => ⟨fun _ _ _ _ _ _ _ r h => by simp [qAT.j0] at h, fun _ _ _ _ _ _ _ r h => by simp [qAT.j1] at h⟩
 | k + 1 => by
  obtain ⟨ih0, ih1⟩ := qAT.qC6 k
  refine ⟨?_, ?_⟩
  ·intro y0 y1 y2 y3 y4 y5 y6
   unfold qAT.j0
   have im0 := @qB6.mono
   exact zm
  ·intro y0 y1 y2 y3 y4 y5 y6
   unfold qAT.j1
   have im0 := @qB6.mono
   exact zm
theorem qAT.mono : ∀ a0 a1 a2 a3 a4 a5 k, LeO (qAT.f k a0 a1 a2 a3 a4 a5) (qAT.f (k + 1) a0 a1 a2 a3 a4 a5) := by
 intro a0 a1 a2 a3 a4 a5 k
 obtain ⟨ih0, ih1⟩ := qAT.qC6 k
 unfold qAT.f
 have im0 := @qB6.mono
 exact zm
theorem qAT.calls (k : Nat) (A0 : Option Addr) (c0 : Nat) (l0 : List (S76)) (a1_0 : Int) (A1_1 : Option Addr) (c1_1 : Nat) (l1_1 : List Int) (a1_2 : Int) (a1_3 : Int) (a1_4 : ByteArray) (r1 : Int) (r2 : Int) (w : World) (hr0 : Kd.C k76 w A0 l0.length l0) (hc0 : l0.length ≤ c0) (hr1_1 : Kd.C (Kd.int .i64) w A1_1 l1_1.length l1_1) (hc1_1 : l1_1.length ≤ c1_1) (h : qAT.f k l0 a1_0 l1_1 a1_2 a1_3 a1_4 = some (r1, r2)) :
  Calls Tryz.prog 111 #[.slice A0 l0.length c0, .agg #[.int .i64 a1_0, .slice A1_1 l1_1.length c1_1, .int .i64 a1_2, .int .i64 a1_3, .string a1_4]] w fun e w' => e = .returned (.tuple #[.int .i64 r1, .int .i64 r2]) ∧ Below w.heap.size w w' := by
 have hu66 := Tryz.underlying66
 have HR0 := qA0.mk hr0
 have HC0 := qA0.mk hc0
 clear hr0 hc0
 have HR1_1 := qA0.mk hr1_1
 have HC1_1 := qA0.mk hc1_1
 clear hr1_1 hc1_1
 have HB := qA0.mk (Below.refl w.heap.size w)
 have H := h
 unfold qAT.f at H
 clear h
 replace H := zi H
 obtain ⟨⟨t172, t173⟩, A30, H⟩ := H
 dsimp only at H
 have A3 := qA0.mk A30
 clear A30
 by_cases c4 : t173 = true
 rotate_left
 ·replace c4 := Bool.eq_false_iff.mpr c4
  subst c4
  rw [zj] at H
  simp only [Option.some.injEq, Prod.mk.injEq] at H
  obtain ⟨rfl, rfl⟩ := H
  go_enter Tryz.func111, Tryz.ntmps111
  go_wp2_with (first | ((with_reducible refine qA9 (N := 3) rfl ?_); refine boxZ 3 #[.int .i64 a1_0, .slice A1_1 l1_1.length c1_1, .int .i64 a1_2, .int .i64 a1_3, .string a1_4] 66 ?_; intro gb171 hg w30 hbox hb; have BK171 := qA0.mk (hbox); have GW171 := zg w gb171; have GE171 := zg w gb171; replace HB := zB hb; clear hb hbox hg; obtain ⟨hcz31_0, hcz31_1, hcz31_2, hcz31_3, hcz31_4, hfz31_0, hfz31_1, hfz31_2, hfz31_3, hfz31_4⟩ := bc5 BK171.out) | ((with_reducible refine qA6 (f := 143) rfl ?_); refine qBP (some 12) Tryz.func143 #[.slice A0 l0.length c0, .string a1_4] ?_; (with_reducible refine (qB6.calls k _ _ l0 a1_4 t172 false _ ?side1 ?side2 A3.out).mono ?_); (case side1 => repeat (first | exact (Kd.qAE HR0.out HB.out) | refine sC ?_)); (case side2 => exact HC0.out); rintro e w32 ⟨rfl, hb⟩; refine ⟨_, rfl, ?_⟩; replace BK171 := zK BK171 hb; replace HB := zB hb; (try clear hb hk); (try clear hb)))
  go_ret2
  exact ⟨zf, zb⟩
 subst c4
 rw [if_pos rfl] at H
 have HC5 := qA0.mk H
 clear H
 go_enter Tryz.func111, Tryz.ntmps111
 go_upto_region 4 with (first | ((with_reducible refine qA9 (N := 3) rfl ?_); refine boxZ 3 #[.int .i64 a1_0, .slice A1_1 l1_1.length c1_1, .int .i64 a1_2, .int .i64 a1_3, .string a1_4] 66 ?_; intro gb171 hg w6 hbox hb; have BK171 := qA0.mk (hbox); have GW171 := zg w gb171; have GE171 := zg w gb171; replace HB := zB hb; clear hb hbox hg; obtain ⟨hcz7_0, hcz7_1, hcz7_2, hcz7_3, hcz7_4, hfz7_0, hfz7_1, hfz7_2, hfz7_3, hfz7_4⟩ := bc5 BK171.out) | ((with_reducible refine qA6 (f := 143) rfl ?_); refine qBP (some 12) Tryz.func143 #[.slice A0 l0.length c0, .string a1_4] ?_; (with_reducible refine (qB6.calls k _ _ l0 a1_4 t172 true _ ?side1 ?side2 A3.out).mono ?_); (case side1 => repeat (first | exact (Kd.qAE HR0.out HB.out) | refine sC ?_)); (case side2 => exact HC0.out); rintro e w8 ⟨rfl, hb⟩; refine ⟨_, rfl, ?_⟩; replace BK171 := zK BK171 hb; replace HB := zB hb; (try clear hb hk); (try clear hb)))
 go_cut [18] (fun v18 wc => ∃ (kq : Nat) (x18_4 : Bool), v18 = .bool x18_4 ∧ qA0 (qAT.j0 kq t172 x18_4 a1_0 l1_1 a1_2 a1_3 a1_4 = some (r1, r2)) ∧ qA0 (kq ≤ k) ∧ qA0 (wc.heap[gb171]? = some (.cells #[.int .i64 a1_0, (.slice A1_1 l1_1.length c1_1), .int .i64 a1_2, .int .i64 a1_3, .string a1_4] 66 (0, 0))) ∧ qA0 (Below w.heap.size w wc))
 case first =>
  have H := HC5.out
  clear HC5
  by_cases c9 : a1_0 = 1
  rotate_left
  ·rw [if_neg c9] at H
   have ⟨c9b0, c9b1⟩ := zn c9
   (first | rw [c9b0] | (simp only [qC9, qCB]; rw [c9b0]) | skip)
   have H' := qA0.mk H
   clear H
   obtain ⟨hcz12_0, hcz12_1, hcz12_2, hcz12_3, hcz12_4, hfz12_0, hfz12_1, hfz12_2, hfz12_3, hfz12_4⟩ := bc5 BK171.out
   go_wp2
   go_meet
   case rel => exact ⟨_, (false), zs, H', ⟨by first | omega | exact Nat.le_refl _⟩, ⟨zk BK171⟩, ⟨zb⟩⟩
  rw [if_pos c9] at H
  have ⟨c9b0, c9b1⟩ := ze c9
  clear c9
  (first | rw [c9b0] | (simp only [qC9, qCB]; rw [c9b0]) | skip)
  replace H := zi H
  obtain ⟨t174, A100, H⟩ := H
  have A10 := qA0.mk A100
  clear A100
  have H' := qA0.mk H
  clear H
  obtain ⟨hcz11_0, hcz11_1, hcz11_2, hcz11_3, hcz11_4, hfz11_0, hfz11_1, hfz11_2, hfz11_3, hfz11_4⟩ := bc5 BK171.out
  go_wp2_with ((go_at_call 114; (with_reducible refine (qCF.calls t172 t174 _ A10.out).mono ?_); rintro e w' ⟨rfl, ⟨nd, rfl⟩⟩))
  go_meet
  case rel => exact ⟨_, (t174), zs, H', ⟨by first | omega | exact Nat.le_refl _⟩, ⟨zk BK171⟩, ⟨zb⟩⟩
 clear HC5 hcz7_0 hcz7_1 hcz7_2 hcz7_3 hcz7_4 hfz7_0 hfz7_1 hfz7_2 hfz7_3 hfz7_4
 obtain ⟨kq, x18_4, rfl, HA, HJ4, BK171, HB⟩ := hcut
 obtain _ | kj4 := kq
 ·exact absurd HA.out (by simp [qAT.j0])
 have H := HA.out
 clear HA
 simp only [qAT.j0] at H
 by_cases c13 : x18_4 = true
 ·subst c13
  rw [if_pos rfl] at H
  simp only [Option.some.injEq, Prod.mk.injEq] at H
  obtain ⟨rfl, rfl⟩ := H
  go_wp2
  go_ret2
  exact ⟨zf, zb⟩
 replace c13 := Bool.eq_false_iff.mpr c13
 subst c13
 rw [zj] at H
 have HC14 := qA0.mk H
 clear H
 go_upto_region 6 with (fail)
 go_cut [27] (fun v27 wc => ∃ (kq : Nat) (x27_13 : Bool), v27 = .bool x27_13 ∧ qA0 (qAT.j1 kq t172 x27_13 a1_0 l1_1 a1_2 a1_3 a1_4 = some (r1, r2)) ∧ qA0 (kq ≤ kj4) ∧ qA0 (wc.heap[gb171]? = some (.cells #[.int .i64 a1_0, (.slice A1_1 l1_1.length c1_1), .int .i64 a1_2, .int .i64 a1_3, .string a1_4] 66 (0, 0))) ∧ qA0 (Below w.heap.size w wc))
 case first =>
  have H := HC14.out
  clear HC14
  by_cases c15 : a1_0 = 3
  rotate_left
  ·rw [if_neg c15] at H
   have ⟨c15b0, c15b1⟩ := zn c15
   (first | rw [c15b0] | (simp only [qC9, qCB]; rw [c15b0]) | skip)
   have H' := qA0.mk H
   clear H
   obtain ⟨hcz17_0, hcz17_1, hcz17_2, hcz17_3, hcz17_4, hfz17_0, hfz17_1, hfz17_2, hfz17_3, hfz17_4⟩ := bc5 BK171.out
   go_wp2
   go_meet
   case rel => exact ⟨_, (false), zs, H', ⟨by have := HJ4.out; first | omega | exact Nat.le_refl _⟩, ⟨zk BK171⟩, ⟨zb⟩⟩
  rw [if_pos c15] at H
  have ⟨c15b0, c15b1⟩ := ze c15
  clear c15
  (first | rw [c15b0] | (simp only [qC9, qCB]; rw [c15b0]) | skip)
  have H' := qA0.mk H
  clear H
  obtain ⟨hcz16_0, hcz16_1, hcz16_2, hcz16_3, hcz16_4, hfz16_0, hfz16_1, hfz16_2, hfz16_3, hfz16_4⟩ := bc5 BK171.out
  go_wp2
  go_meet
  case rel => exact ⟨_, ((t172 == 1)), zs, H', ⟨by have := HJ4.out; first | omega | exact Nat.le_refl _⟩, ⟨zk BK171⟩, ⟨zb⟩⟩
 clear HC14
 obtain ⟨kq, x27_13, rfl, HA, HJ13, BK171, HB⟩ := hcut
 obtain _ | kj13 := kq
 ·exact absurd HA.out (by simp [qAT.j1])
 have H := HA.out
 clear HA
 simp only [qAT.j1] at H
 by_cases c18 : x27_13 = true
 ·subst c18
  rw [if_pos rfl] at H
  simp only [Option.some.injEq, Prod.mk.injEq] at H
  obtain ⟨rfl, rfl⟩ := H
  go_wp2
  go_ret2
  exact ⟨zf, zb⟩
 replace c18 := Bool.eq_false_iff.mpr c18
 subst c18
 rw [zj] at H
 by_cases c19 : a1_0 = 2
 rotate_left
 ·rw [if_neg c19] at H
  have ⟨c19b0, c19b1⟩ := zn c19
  simp only [Option.some.injEq, Prod.mk.injEq] at H
  obtain ⟨rfl, rfl⟩ := H
  obtain ⟨hcz29_0, hcz29_1, hcz29_2, hcz29_3, hcz29_4, hfz29_0, hfz29_1, hfz29_2, hfz29_3, hfz29_4⟩ := bc5 BK171.out
  go_wp2
  go_ret2
  exact ⟨zf, zb⟩
 rw [if_pos c19] at H
 have ⟨c19b0, c19b1⟩ := ze c19
 clear c19
 by_cases c20 : t172 = 2
 ·rw [if_pos c20] at H
  have ⟨c20b0, c20b1⟩ := ze c20
  clear c20
  simp only [Option.some.injEq, Prod.mk.injEq] at H
  obtain ⟨rfl, rfl⟩ := H
  obtain ⟨hcz21_0, hcz21_1, hcz21_2, hcz21_3, hcz21_4, hfz21_0, hfz21_1, hfz21_2, hfz21_3, hfz21_4⟩ := bc5 BK171.out
  go_wp2
  go_ret2
  exact ⟨zf, zb⟩
 rw [if_neg c20] at H
 have ⟨c20b0, c20b1⟩ := zn c20
 by_cases c22 : t172 = 3
 ·rw [if_pos c22] at H
  have ⟨c22b0, c22b1⟩ := ze c22
  clear c22
  simp only [Option.some.injEq, Prod.mk.injEq] at H
  obtain ⟨rfl, rfl⟩ := H
  obtain ⟨hcz23_0, hcz23_1, hcz23_2, hcz23_3, hcz23_4, hfz23_0, hfz23_1, hfz23_2, hfz23_3, hfz23_4⟩ := bc5 BK171.out
  go_wp2
  go_ret2
  exact ⟨zf, zb⟩
 rw [if_neg c22] at H
 have ⟨c22b0, c22b1⟩ := zn c22
 by_cases c24 : t172 = 5
 ·rw [if_pos c24] at H
  have ⟨c24b0, c24b1⟩ := ze c24
  clear c24
  simp only [Option.some.injEq, Prod.mk.injEq] at H
  obtain ⟨rfl, rfl⟩ := H
  obtain ⟨hcz25_0, hcz25_1, hcz25_2, hcz25_3, hcz25_4, hfz25_0, hfz25_1, hfz25_2, hfz25_3, hfz25_4⟩ := bc5 BK171.out
  go_wp2
  go_ret2
  exact ⟨zf, zb⟩
 rw [if_neg c24] at H
 have ⟨c24b0, c24b1⟩ := zn c24
 by_cases c26 : t172 = 6
 rotate_left
 ·rw [if_neg c26] at H
  have ⟨c26b0, c26b1⟩ := zn c26
  simp only [Option.some.injEq, Prod.mk.injEq] at H
  obtain ⟨rfl, rfl⟩ := H
  obtain ⟨hcz28_0, hcz28_1, hcz28_2, hcz28_3, hcz28_4, hfz28_0, hfz28_1, hfz28_2, hfz28_3, hfz28_4⟩ := bc5 BK171.out
  go_wp2
  go_ret2
  exact ⟨zf, zb⟩
 rw [if_pos c26] at H
 have ⟨c26b0, c26b1⟩ := ze c26
 clear c26
 simp only [Option.some.injEq, Prod.mk.injEq] at H
 obtain ⟨rfl, rfl⟩ := H
 obtain ⟨hcz27_0, hcz27_1, hcz27_2, hcz27_3, hcz27_4, hfz27_0, hfz27_1, hfz27_2, hfz27_3, hfz27_4⟩ := bc5 BK171.out
 go_wp2
 go_ret2
 exact ⟨zf, zb⟩
def qBQ.l0 : Nat → ByteArray → List (S95) → Int → Int → Option (ByteArray × Int × Int × Bool × (List (S134)) × Bool)
 | 0, _, _, _, _ => none
 | k + 1, x1, x8, x9, x10 => if x10 < x9 then (if 0 ≤ x10 then (if x10 < (x8.length : Int) then (if ((qBS x8 x10).f0).toList = x1.toList then (some ((qBS x8 x10).f0, (qBS x8 x10).f1, (qBS x8 x10).f2, (qBS x8 x10).f3, (qBS x8 x10).f4, true)) else (qBQ.l0 k x1 x8 x9 (wrap64 (x10 + 1)))) else (none)) else (none)) else (some ((⟨#[]⟩ : ByteArray), 0, 0, false, ([] : List (S134)), false))
def qBQ.f (k : Nat) (l0 : List (S95)) (a1 : ByteArray) : Option (ByteArray × Int × Int × Bool × (List (S134)) × Bool) := qBQ.l0 k a1 l0 (l0.length : Int) 0
theorem qBQ.qC6 : ∀ k, (∀ y0 y1 y2 y3, LeO (qBQ.l0 k y0 y1 y2 y3) (qBQ.l0 (k + 1) y0 y1 y2 y3))
 | 0 => fun _ _ _ _ r h => by simp [qBQ.l0] at h
 | k + 1 => by
  have ih0 := qBQ.qC6 k
  ·intro y0 y1 y2 y3
   unfold qBQ.l0
   exact zm
theorem qBQ.mono : ∀ a0 a1 k, LeO (qBQ.f k a0 a1) (qBQ.f (k + 1) a0 a1) := by
 intro a0 a1 k
 have ih0 := qBQ.qC6 k
 unfold qBQ.f
 exact zm
theorem qBQ.calls (k : Nat) (P0_ : Nat → Prop) (A0 : Option Addr) (c0 : Nat) (l0 : List (S95)) (a1 : ByteArray) (r1 : ByteArray) (r2 : Int) (r3 : Int) (r4 : Bool) (r5 : List (S134)) (r6 : Bool) (w : World) (hs0 : Kd.V k95 95 w w.heap.size (fun k_ => P0_ k_) (.slice A0 l0.length c0) l0) (h : qBQ.f k l0 a1 = some (r1, r2, r3, r4, r5, r6)) :
  Calls Tryz.prog 112 #[.slice A0 l0.length c0, .string a1] w fun e w' => ∃ v4_ : Value, e = .returned (.tuple #[.agg #[.string r1, .int .i64 r2, .int .i64 r3, .bool r4, v4_], .bool r6]) ∧ Kd.V k134 134 w' w.heap.size (fun k_ => (P0_ k_ ∨ w.heap.size ≤ k_)) v4_ r5 ∧ Below w.heap.size w w' := by
 have hu95 := Tryz.underlying95
 have HO0 := qA0.mk (show Kd.V k95 95 w w.heap.size (fun k_ => (P0_ k_ ∨ w.heap.size ≤ k_)) (.slice A0 l0.length c0) l0 from Kd.qFA hs0 (fun k_ hk => .inl hk))
 have HB := qA0.mk (Below.refl w.heap.size w)
 have H := h
 unfold qBQ.f at H
 clear h
 have H' := qA0.mk H
 clear H
 go_enter Tryz.func112, Tryz.ntmps112
 go_wp2_with (((with_reducible refine qA9 (N := 4) rfl ?_); refine boxZ 4 #[.string (⟨#[]⟩ : ByteArray), .int .i64 0, .int .i64 0, .bool false, .slice none 0 0] 95 ?_; intro gb175 hg w3 hbox hb; have BK175 := qA0.mk (hbox); have GW175 := zg w gb175; have GE175 := zg w gb175; replace HO0 := qA0.mk (Kd.V_below (Kd.V_elderB (by (with_reducible repeat (first | apply Kd.V_alloc | apply Kd.qEI | apply Kd.V_drew)); exact HO0.out) gb175 (Nat.le_of_eq hg.symm)) hb); replace HB := zB hb; clear hb hbox hg))
 go_loopg [10] k (fun kq v10 w' => ∃ (x10_1 : Int) (x176000_1 : ByteArray) (x176001_1 : Int) (x176002_1 : Int) (x176003_1 : Bool), v10 = .int .i64 x10_1 ∧ qA0 (qBQ.l0 kq a1 l0 (l0.length : Int) x10_1 = some (r1, r2, r3, r4, r5, r6)) ∧ qA0 (kq ≤ k) ∧ qA0 (Kd.V k95 95 w' w.heap.size (fun k_ => (P0_ k_ ∨ w.heap.size ≤ k_) ∧ k_ ≠ gb175) (.slice A0 l0.length c0) l0) ∧ qA0 (w'.heap[gb175]? = some (.cells #[.string x176000_1, .int .i64 x176001_1, .int .i64 x176002_1, .bool x176003_1, (.slice none 0 0)] 95 (0, 0))) ∧ qA0 (Below w.heap.size w w'))
 case atStart => exact ⟨(0), ((⟨#[]⟩ : ByteArray)), (0), (0), (false), zs, H', ⟨Nat.le_refl _⟩, ⟨by (with_reducible repeat (first | apply Kd.V_alloc | apply Kd.qEI | apply Kd.V_drew)); exact HO0.out⟩, ⟨zk BK175⟩, ⟨zb⟩⟩
 clear H'
 obtain ⟨x10_1, x176000_1, x176001_1, x176002_1, x176003_1, rfl, HA, HK1, HO_8, BK175, HB⟩ := hrel
 obtain _ | k1 := gk
 ·exact absurd HA.out (by simp [qBQ.l0])
 have H := HA.out
 clear HA
 simp only [qBQ.l0] at H
 by_cases c4 : x10_1 < (l0.length : Int)
 rotate_left
 ·rw [if_neg c4] at H
  have c4b0 := decide_eq_false c4
  clear c4
  simp only [Option.some.injEq, Prod.mk.injEq] at H
  obtain ⟨rfl, rfl, rfl, rfl, rfl, rfl⟩ := H
  obtain ⟨hcz15_0, hcz15_1, hcz15_2, hcz15_3, hcz15_4, hfz15_0, hfz15_1, hfz15_2, hfz15_3, hfz15_4⟩ := bc5 BK175.out
  go_wp2
  refine bodyPost_ret (qDN rfl _ _ gb175 95 #[.string (⟨#[]⟩ : ByteArray), .int .i64 0, .int .i64 0, .bool false, .slice none 0 0] (0, 0) _ rfl (zp5 BK175) Tryz.underlying95 rfl (by kernel_rfl)) rfl ?_
  exact ⟨_, zf, (Kd.qF4 _ _ _ _ _), zb⟩
 rw [if_pos c4] at H
 have c4b0 := decide_eq_true c4
 clear c4
 by_cases c5 : 0 ≤ x10_1
 rotate_left
 ·rw [if_neg c5] at H
  cases H
 rw [if_pos c5] at H
 have c5b0 := decide_eq_true c5
 clear c5
 by_cases c6 : x10_1 < (l0.length : Int)
 rotate_left
 ·rw [if_neg c6] at H
  cases H
 rw [if_pos c6] at H
 have c6b0 := decide_eq_true c6
 clear c6
 by_cases c7 : ((qBS l0 x10_1).f0).toList = a1.toList
 rotate_left
 ·rw [if_neg c7] at H
  have ⟨c7b0, c7b1⟩ := zn c7
  have H' := qA0.mk H
  clear H
  have p176 : 0 ≤ (x10_1 : Int) := zd
  have q176 : x10_1 < (l0.length : Int) := zd
  obtain ⟨ad176, A176_4, c176_4, e176, hx176_0, hx176_1, hx176_2, hx176_3, hx176_4, hl176_4, hi176_4⟩ := at_T95 (Kd.qF1 HO_8.out).2.2 x10_1 p176 q176
  cases e176
  obtain ⟨ce176, hce176, hMe176, hcc176⟩ := Kd.V_get HO_8.out z95 x10_1 p176 (by first | exact q176 | exact zd | (have e_ := (Kd.qF1 HO_8.out).1; omega))
  obtain ⟨ua176_4, uc176_4, rfl, ul176_4, ge176_4⟩ := k95_openF hMe176
  have hv176_4 := hcc176 4 _ rfl
  rw [qBX _ _ 4 (by omega)] at hv176_4
  replace hv176_4 := Option.some.inj (hv176_4.symm.trans hx176_4)
  injection hv176_4 with hva_ hvn_ hvc_
  rw [hva_] at ge176_4
  rw [hvc_] at ul176_4
  have HL176_4 := qA0.mk (show Kd.V k134 134 _ w.heap.size _ _ ((qBS l0 x10_1).f4) from Kd.V_mk ul176_4 ge176_4)
  clear hva_ hvn_ hvc_ ge176_4 ul176_4 hcc176 hce176
  have HR176_4 := qA0.mk hi176_4
  have HC176_4 := qA0.mk hl176_4
  clear hi176_4 hl176_4
  replace p176 := eq_true p176
  replace q176 := eq_true q176
  go_wp2_with (((with_reducible refine qA9 (N := 7) rfl ?_); refine boxZ 7 #[.string (⟨#[]⟩ : ByteArray), .int .i64 0, .int .i64 0, .bool false, .slice none 0 0] 95 ?_; intro gb177 hg w12 hbox hb; have BK177 := qA0.mk (hbox); have GW177 := zg w gb177; have GE177 := zg w gb177; have NB175_177 := zl BK175 gb177; have NB177_175 := zu BK175 gb177; replace HO_8 := qA0.mk (Kd.V_below (Kd.V_elderB (by (with_reducible repeat (first | apply Kd.V_alloc | apply Kd.qEI | apply Kd.V_drew)); exact HO_8.out) gb177 (Nat.le_of_eq hg.symm)) hb); replace HL176_4 := qA0.mk (Kd.V_below (Kd.V_elderB (by (with_reducible repeat (first | apply Kd.V_alloc | apply Kd.qEI | apply Kd.V_drew)); exact HL176_4.out) gb177 (Nat.le_of_eq hg.symm)) hb); replace BK175 := zK BK175 hb; replace HR176_4 := qA0.mk (Kd.qAE (by repeat (first | (with_reducible exact HR176_4.out) | (with_reducible refine Kd.C_alloc ?_ _) | (with_reducible refine Kd.C_drewN ?_ _) | (with_reducible refine Kd.C_drew ?_) | exact HR176_4.out)) hb); replace HB := zB hb; clear hb hbox hg; have hnb13 := NB177_175.out; have hnc13 := NB175_177.out; obtain ⟨hcz14_0, hcz14_1, hcz14_2, hcz14_3, hcz14_4, hfz14_0, hfz14_1, hfz14_2, hfz14_3, hfz14_4⟩ := bc5 BK177.out))
  go_roundg k1
  case measure => have := HK1.out; omega
  case rel => exact ⟨(wrap64 (x10_1 + 1)), (x176000_1), (x176001_1), (x176002_1), (x176003_1), zs, H', ⟨by have := HK1.out; omega⟩, ⟨by (with_reducible repeat (first | apply Kd.V_alloc | apply Kd.qEI | apply Kd.V_drew)); exact Kd.qFA (Kd.qEP (Kd.qEP (Kd.qEP (Kd.qEP (Kd.qEP (Kd.qFA HO_8.out (fun k_ hk => (⟨hk, hk.2⟩ : _ ∧ k_ ≠ gb177))) (fun _ hk => hk.2) _) (fun _ hk => hk.2) _) (fun _ hk => hk.2) _) (fun _ hk => hk.2) _) (fun _ hk => hk.2) _) (fun _ hk => ⟨hk.1.1.1, hk.1.1.2⟩)⟩, ⟨by refine zf5 ?_ NB175_177; (with_reducible repeat refine st ?_); exact BK175.out⟩, ⟨zb⟩⟩
 rw [if_pos c7] at H
 have ⟨c7b0, c7b1⟩ := ze c7
 clear c7
 simp only [Option.some.injEq, Prod.mk.injEq] at H
 obtain ⟨rfl, rfl, rfl, rfl, rfl, rfl⟩ := H
 have p176 : 0 ≤ (x10_1 : Int) := zd
 have q176 : x10_1 < (l0.length : Int) := zd
 obtain ⟨ad176, A176_4, c176_4, e176, hx176_0, hx176_1, hx176_2, hx176_3, hx176_4, hl176_4, hi176_4⟩ := at_T95 (Kd.qF1 HO_8.out).2.2 x10_1 p176 q176
 cases e176
 obtain ⟨ce176, hce176, hMe176, hcc176⟩ := Kd.V_get HO_8.out z95 x10_1 p176 (by first | exact q176 | exact zd | (have e_ := (Kd.qF1 HO_8.out).1; omega))
 obtain ⟨ua176_4, uc176_4, rfl, ul176_4, ge176_4⟩ := k95_openF hMe176
 have hv176_4 := hcc176 4 _ rfl
 rw [qBX _ _ 4 (by omega)] at hv176_4
 replace hv176_4 := Option.some.inj (hv176_4.symm.trans hx176_4)
 injection hv176_4 with hva_ hvn_ hvc_
 rw [hva_] at ge176_4
 rw [hvc_] at ul176_4
 have HL176_4 := qA0.mk (show Kd.V k134 134 _ w.heap.size _ _ ((qBS l0 x10_1).f4) from Kd.V_mk ul176_4 ge176_4)
 clear hva_ hvn_ hvc_ ge176_4 ul176_4 hcc176 hce176
 have HR176_4 := qA0.mk hi176_4
 have HC176_4 := qA0.mk hl176_4
 clear hi176_4 hl176_4
 replace p176 := eq_true p176
 replace q176 := eq_true q176
 go_wp2_with (((with_reducible refine qA9 (N := 7) rfl ?_); refine boxZ 7 #[.string (⟨#[]⟩ : ByteArray), .int .i64 0, .int .i64 0, .bool false, .slice none 0 0] 95 ?_; intro gb177 hg w8 hbox hb; have BK177 := qA0.mk (hbox); have GW177 := zg w gb177; have GE177 := zg w gb177; have NB175_177 := zl BK175 gb177; have NB177_175 := zu BK175 gb177; replace HO_8 := qA0.mk (Kd.V_below (Kd.V_elderB (by (with_reducible repeat (first | apply Kd.V_alloc | apply Kd.qEI | apply Kd.V_drew)); exact HO_8.out) gb177 (Nat.le_of_eq hg.symm)) hb); replace HL176_4 := qA0.mk (Kd.V_below (Kd.V_elderB (by (with_reducible repeat (first | apply Kd.V_alloc | apply Kd.qEI | apply Kd.V_drew)); exact HL176_4.out) gb177 (Nat.le_of_eq hg.symm)) hb); replace BK175 := zK BK175 hb; replace HR176_4 := qA0.mk (Kd.qAE (by repeat (first | (with_reducible exact HR176_4.out) | (with_reducible refine Kd.C_alloc ?_ _) | (with_reducible refine Kd.C_drewN ?_ _) | (with_reducible refine Kd.C_drew ?_) | exact HR176_4.out)) hb); replace HB := zB hb; clear hb hbox hg; have hnb9 := NB177_175.out; have hnc9 := NB175_177.out; obtain ⟨hcz10_0, hcz10_1, hcz10_2, hcz10_3, hcz10_4, hfz10_0, hfz10_1, hfz10_2, hfz10_3, hfz10_4⟩ := bc5 BK177.out; obtain ⟨hcz11_0, hcz11_1, hcz11_2, hcz11_3, hcz11_4, hfz11_0, hfz11_1, hfz11_2, hfz11_3, hfz11_4⟩ := bc5 BK175.out))
 refine bodyPost_ret (qDN rfl _ _ gb175 95 #[.string ((qBS l0 x10_1).f0), .int .i64 ((qBS l0 x10_1).f1), .int .i64 ((qBS l0 x10_1).f2), .bool ((qBS l0 x10_1).f3), .slice A176_4 ((qBS l0 x10_1).f4).length c176_4] (0, 0) _ rfl (by refine zp_ (cs := #[.string ((qBS l0 x10_1).f0), .int .i64 ((qBS l0 x10_1).f1), .int .i64 ((qBS l0 x10_1).f2), .bool ((qBS l0 x10_1).f3), .slice none 0 0]) ?_ 4; refine zp_ (cs := #[.string ((qBS l0 x10_1).f0), .int .i64 ((qBS l0 x10_1).f1), .int .i64 ((qBS l0 x10_1).f2), .bool x176003_1, .slice none 0 0]) ?_ 3; refine zp_ (cs := #[.string ((qBS l0 x10_1).f0), .int .i64 ((qBS l0 x10_1).f1), .int .i64 x176002_1, .bool x176003_1, .slice none 0 0]) ?_ 2; refine zp_ (cs := #[.string ((qBS l0 x10_1).f0), .int .i64 x176001_1, .int .i64 x176002_1, .bool x176003_1, .slice none 0 0]) ?_ 1; refine zp_ (cs := #[.string x176000_1, .int .i64 x176001_1, .int .i64 x176002_1, .bool x176003_1, .slice none 0 0]) ?_ 0; refine zf5 ?_ NB175_177; (with_reducible repeat refine st ?_); exact BK175.out) Tryz.underlying95 rfl (by kernel_rfl)) rfl ?_
 exact ⟨_, zf, by (with_reducible repeat (first | apply Kd.V_alloc | apply Kd.qEI | apply Kd.V_drew)); exact Kd.qFA (Kd.qEP (Kd.qEP (Kd.qEP (Kd.qEP (Kd.qEP (Kd.qEP (Kd.qEP (Kd.qEP (Kd.qEP (Kd.qEP (Kd.qFA (Kd.qFA HL176_4.out (fun k_ hk => (⟨hk, hk.2⟩ : _ ∧ k_ ≠ gb177))) (fun k_ hk => (⟨hk, hk.1.1.2⟩ : _ ∧ k_ ≠ gb175))) (fun _ hk => hk.1.2) _) (fun _ hk => hk.1.2) _) (fun _ hk => hk.1.2) _) (fun _ hk => hk.1.2) _) (fun _ hk => hk.1.2) _) (fun _ hk => hk.2) _) (fun _ hk => hk.2) _) (fun _ hk => hk.2) _) (fun _ hk => hk.2) _) (fun _ hk => hk.2) _) (fun _ hk => hk.1.1.1.1), zb⟩
def NilApp (t : TypeId) (x : Value) (w : World) (Q : Ending → World → Prop) : Prop := ∃ v w1, (Builtin.append_ #[t, t] t #[.slice none 0 0, x]).run Tryz.prog w = .ok v w1 ∧ Q (.returned v) w1
theorem NilApp.mono {t : TypeId} {x : Value} {w : World} {Q Q' : Ending → World → Prop} (h : NilApp t x w Q) (hq : ∀ e w', Q e w' → Q' e w') : NilApp t x w Q' := by
 obtain ⟨v, w1, hr, h⟩ := h
 exact ⟨v, w1, hr, hq _ _ h⟩
theorem nilapp_ {ops : Array Oper} {rest : List Oper} {oi : Oper} {a : Act} {w : World} {Q : Exit → Act → World → Prop} (N : Option Tmp) (hd : oi.dst = N) (hg : oi.guard = none) (t : TypeId) (s x : Operand) (hop : oi.op = .call { callee := .builtin .append, args := #[s, x], argTypes := #[t, t] }) (ht : oi.type = t)
  (hs : a.eval s = .slice none 0 0) (v : Value) (hx : a.eval x = v) (h : NilApp t v w fun e w' => ∃ v, e = .returned v ∧ wpList Tryz.prog ops Q rest (a.put N v) w') : wpList Tryz.prog ops Q (oi :: rest) a w := by
 obtain ⟨v1, w1, hr, v2, e, hK0⟩ := h
 obtain rfl := Ending.returned.inj e
 refine wpList_plain hg fun K hK => ?_
 unfold Oper.wp execOp
 simp only [hop, resolve, invoke, builtin, Sem.run_bind, Sem.run_pure, Result.andThen_ok, List.map_toArray, List.map_cons, List.map_nil, hs, hx, ht, hr]
 subst hd
 exact hK _ _ hK0
def qD3.f (l0 : List S134) : Option (List S134) := if l0.length * 16 ≤ 140737488355328 then some l0 else none
def qD3.enc (x : S134) : List Value := [.int .i64 x.f0, .int .i64 x.f1]
theorem qD3.info : (Tryz.prog.info? 134).map (fun i => (i.zero, i.size, i.bytes)) = some (some (.agg #[.int .i64 0, .int .i64 0]), 2, 16) := by kernel_rfl
theorem qD3.calls (A0 : Option Addr) (c0 : Nat) (l0 : List S134) (r : List S134) (w : World) (hr0 : Kd.C k134 w A0 l0.length l0) (hc0 : l0.length ≤ c0) (h : qD3.f l0 = some r) :
  NilApp 93 (.slice A0 l0.length c0) w fun e w' => ∃ v0_ : Value, e = .returned (v0_) ∧ Kd.R k134 134 w' w.heap.size (fun _ => True) v0_ r ∧ Below w.heap.size w w' := by
 unfold qD3.f at h
 by_cases hsz : l0.length * 16 ≤ 140737488355328
 case neg => rw [if_neg hsz] at h; cases h
 rw [if_pos hsz] at h
 obtain rfl := Option.some.inj h
 clear h
 obtain ⟨i0, hi, hz0, hz1, hz2⟩ := info_parts qD3.info
 have HO := own_nil w w.heap.size 134 2
 cases A0 with
 | none =>
  have e0 : l0 = [] := by
   rcases Nat.eq_zero_or_pos l0.length with h | h
   ·exact List.length_eq_zero_iff.1 h
   ·obtain ⟨_, h', _⟩ := hr0.2.2 h; cases h'
  subst e0
  refine ⟨.slice none 0 0, w, ?_, _, rfl, Kd.qEM _ _ _ _ _, Below.refl _ _⟩
  simp [Builtin.append_, run_underlying Tryz.underlying93, sizeOf, typeInfo, hi, Builtin.lenOf, Builtin.firstCells]
 | some ad =>
  have hlen := Gen.flat_len qD3.enc 2 (fun _ => rfl) l0
  obtain ⟨v1, w1, hr, h2, h3, _, h5⟩ := run_append_own_at (P := Tryz.prog) w w.heap.size 93 93 134 i0 (.agg #[.int .i64 0, .int .i64 0]) 2 16 Tryz.underlying93 hi hz0 hz1 hz2 rfl (by decide) (.slice none 0 0) 0 [] HO ad l0.length c0 (l0.flatMap qD3.enc) hlen (Gen.flat_cells qD3.enc 2 (by decide) (fun _ => rfl) (fun p c h => k134_open h) hr0)
   (fun u hu => by obtain ⟨x, _, hx⟩ := List.mem_flatMap.1 hu; simp [qD3.enc] at hx; rcases hx with rfl | rfl <;> rfl) (by simp only [maxLen]; omega) (by rw [Nat.zero_add]; exact hsz) (Nat.le_refl _)
  refine ⟨v1, w1, hr, v1, rfl, ⟨fun _ _ => trivial, _, (by rw [Nat.zero_add, List.nil_append] at h2; exact h2), Gen.flat_reps _ qD3.enc 2 (fun _ => rfl) l0 (fun p => k134_mkM _ _ _ p)⟩, (Below.refl _ w).grown h3 (Nat.le_refl _) (fun k hk => by simp [Value.ownBlock] at hk)⟩
mutual
def qAQ.l0 : Nat → List (S95) → List (S76) → Int → Int → Option ((List (S95)))
 | 0, _, _, _, _ => none
 | k + 1, x3, x8, x9, x10 => if x10 < x9 then (if 0 ≤ x10 then (if x10 < (x8.length : Int) then (qAQ.l1 k x3 x8 x9 x10 ((qAB x8 x10).f4) (((qAB x8 x10).f4).length : Int) 0) else (none)) else (none)) else (some x3)
def qAQ.l1 : Nat → List (S95) → List (S76) → Int → Int → List (S95) → Int → Int → Option ((List (S95)))
 | 0, _, _, _, _, _, _, _ => none
 | k + 1, x3, x8, x9, x10, x15, x16, x17 => if x17 < x16 then (if 0 ≤ x17 then (if x17 < (x15.length : Int) then ((qD3.f ((qBS x15 x17).f4)).bind fun t182 => (if x3.length < 2199023255552 then (qAQ.l1 k (x3 ++ [(⟨(qBS x15 x17).f0, (qBS x15 x17).f1, (qBS x15 x17).f2, (qBS x15 x17).f3, t182⟩ : S95)]) x8 x9 x10 x15 x16 (wrap64 (x17 + 1))) else (none))) else (none)) else (none)) else (qAQ.l0 k x3 x8 x9 (wrap64 (x10 + 1)))
end
def qAQ.f (k : Nat) (l0 : List (S76)) : Option ((List (S95))) := qAQ.l0 k ([] : List (S95)) l0 (l0.length : Int) 0
theorem qAQ.qC6 : ∀ k, (∀ y0 y1 y2 y3, LeO (qAQ.l0 k y0 y1 y2 y3) (qAQ.l0 (k + 1) y0 y1 y2 y3)) ∧ (∀ y0 y1 y2 y3 y4 y5 y6, LeO (qAQ.l1 k y0 y1 y2 y3 y4 y5 y6) (qAQ.l1 (k + 1) y0 y1 y2 y3 y4 y5 y6))
 | 0 => ⟨fun _ _ _ _ r h => by simp [qAQ.l0] at h, fun _ _ _ _ _ _ _ r h => by simp [qAQ.l1] at h⟩
 | k + 1 => by
  obtain ⟨ih0, ih1⟩ := qAQ.qC6 k
  refine ⟨?_, ?_⟩
  ·intro y0 y1 y2 y3
   unfold qAQ.l0
   exact zm
  ·intro y0 y1 y2 y3 y4 y5 y6
   unfold qAQ.l1
   exact zm
theorem qAQ.mono : ∀ a0 k, LeO (qAQ.f k a0) (qAQ.f (k + 1) a0) := by
 intro a0 k
 obtain ⟨ih0, ih1⟩ := qAQ.qC6 k
 unfold qAQ.f
 exact zm
theorem qAQ.calls (k : Nat) (A0 : Option Addr) (c0 : Nat) (l0 : List (S76)) (r : List (S95)) (w : World) (hr0 : Kd.C k76 w A0 l0.length l0) (hc0 : l0.length ≤ c0) (h : qAQ.f k l0 = some r) :
  Calls Tryz.prog 113 #[.slice A0 l0.length c0] w fun e w' => ∃ v0_ : Value, e = .returned (v0_) ∧ Kd.S k95 95 w' w.heap.size (fun _ => True) v0_ r ∧ Below w.heap.size w w' := by
 have hu76 := Tryz.underlying76
 have hu95 := Tryz.underlying95
 have HR0 := qA0.mk hr0
 have HC0 := qA0.mk hc0
 clear hr0 hc0
 have HB := qA0.mk (Below.refl w.heap.size w)
 have H := h
 unfold qAQ.f at H
 clear h
 have H' := qA0.mk H
 clear H
 go_enter Tryz.func113, Tryz.ntmps113
 go_wp2
 go_loopg [3, 10] k (fun kq v3 v10 w' => ∃ (x3_1 : List (S95)) (x10_1 : Int), v10 = .int .i64 x10_1 ∧ qA0 (qAQ.l0 kq x3_1 l0 (l0.length : Int) x10_1 = some r) ∧ qA0 (kq ≤ k) ∧ qA0 (Kd.S k95 95 w' w.heap.size (fun _ => True) v3 x3_1) ∧ qA0 (Below w.heap.size w w'))
 case atStart => exact ⟨(([] : List (S95))), (0), zs, H', ⟨Nat.le_refl _⟩, ⟨by first | exact Kd.qFB _ _ _ _ _ | exact Kd.N_nil _ _ _ _ _ | exact Kd.qF4 _ _ _ _ _ | exact Kd.Q_nil _ _ _ _ _ | exact Kd.qEM _ _ _ _ _⟩, ⟨zb⟩⟩
 clear H'
 obtain ⟨x3_1, x10_1, rfl, HA, HK1, HO_3, HB⟩ := hrel
 obtain _ | k1 := gk
 ·exact absurd HA.out (by simp [qAQ.l0])
 have H := HA.out
 clear HA
 simp only [qAQ.l0] at H
 by_cases c2 : x10_1 < (l0.length : Int)
 rotate_left
 ·rw [if_neg c2] at H
  have c2b0 := decide_eq_false c2
  clear c2
  obtain rfl := Option.some.inj H
  go_wp2
  go_ret
  exact ⟨_, zf, by (with_reducible repeat refine sS ?_); exact HO_3.out, zb⟩
 rw [if_pos c2] at H
 have c2b0 := decide_eq_true c2
 clear c2
 by_cases c3 : 0 ≤ x10_1
 rotate_left
 ·rw [if_neg c3] at H
  cases H
 rw [if_pos c3] at H
 have c3b0 := decide_eq_true c3
 clear c3
 by_cases c4 : x10_1 < (l0.length : Int)
 rotate_left
 ·rw [if_neg c4] at H
  cases H
 rw [if_pos c4] at H
 have c4b0 := decide_eq_true c4
 clear c4
 have H' := qA0.mk H
 clear H
 have p178 : 0 ≤ (x10_1 : Int) := zd
 have q178 : x10_1 < (l0.length : Int) := zd
 obtain ⟨ad178, A178_3, c178_3, A178_4, c178_4, A178_5, c178_5, e178, hx178_0, hx178_1, hx178_2, hx178_3, hx178_4, hx178_5, hl178_3, hi178_3, hl178_4, hi178_4, hl178_5, hi178_5⟩ := at_T76 HR0.out x10_1 p178 q178
 cases e178
 (try replace hx178_0 := zh hx178_0)
 replace hx178_1 := zh hx178_1
 replace hx178_2 := zh hx178_2
 replace hx178_3 := zh hx178_3
 replace hx178_4 := zh hx178_4
 replace hx178_5 := zh hx178_5
 have HR178_3 := qA0.mk hi178_3
 have HC178_3 := qA0.mk hl178_3
 clear hi178_3 hl178_3
 have HR178_4 := qA0.mk hi178_4
 have HC178_4 := qA0.mk hl178_4
 clear hi178_4 hl178_4
 have HR178_5 := qA0.mk hi178_5
 have HC178_5 := qA0.mk hl178_5
 clear hi178_5 hl178_5
 replace p178 := eq_true p178
 replace q178 := eq_true q178
 go_wp2_with (((with_reducible refine qA9 (N := 5) rfl ?_); refine boxZ 5 #[.string (⟨#[]⟩ : ByteArray), .int .i64 0, .int .i64 0, .slice none 0 0, .slice none 0 0, .slice none 0 0] 76 ?_; intro gb179 hg w5 hbox hb; have BK179 := qA0.mk (hbox); have GW179 := zg w gb179; have GE179 := zg w gb179; replace HO_3 := qA0.mk (Kd.qDY (by (with_reducible repeat refine sS ?_); exact HO_3.out) hb); replace HB := zB hb; clear hb hbox hg; obtain ⟨hcz6_0, hcz6_1, hcz6_2, hcz6_3, hcz6_4, hcz6_5, hfz6_0, hfz6_1, hfz6_2, hfz6_3, hfz6_4, hfz6_5⟩ := bc6 BK179.out))
 go_loopg [3, 17] k1 (fun kq v3 v17 w' => ∃ (x3_2 : List (S95)) (x17_2 : Int), v17 = .int .i64 x17_2 ∧ qA0 (qAQ.l1 kq x3_2 l0 (l0.length : Int) x10_1 ((qAB l0 x10_1).f4) (((qAB l0 x10_1).f4).length : Int) x17_2 = some r) ∧ qA0 (kq ≤ k1) ∧ qA0 (Kd.S k95 95 w' w.heap.size (fun _ => True) v3 x3_2) ∧ qA0 (w'.heap[gb179]? = some (.cells #[.string ((qAB l0 x10_1).f0), .int .i64 ((qAB l0 x10_1).f1), .int .i64 ((qAB l0 x10_1).f2), (.slice A178_3 ((qAB l0 x10_1).f3).length c178_3), (.slice A178_4 ((qAB l0 x10_1).f4).length c178_4), (.slice A178_5 ((qAB l0 x10_1).f5).length c178_5)] 76 (0, 0))) ∧ qA0 (Below w.heap.size w w'))
 case atStart => exact ⟨(x3_1), (0), zs, H', ⟨Nat.le_refl _⟩, ⟨by (with_reducible repeat refine sS ?_); exact Kd.qDQ (Kd.qCH (Kd.qCH (Kd.qCH (Kd.qCH (Kd.qCH (Kd.qCH (Kd.qEJ HO_3.out BK179.out (by decide)) (fun _ hk => hk.2) _) (fun _ hk => hk.2) _) (fun _ hk => hk.2) _) (fun _ hk => hk.2) _) (fun _ hk => hk.2) _) (fun _ hk => hk.2) _) (fun _ hk => trivial)⟩, ⟨zp6 BK179⟩, ⟨zb⟩⟩
 clear H' c2b0 c3b0 c4b0 hcz6_0 hcz6_1 hcz6_2 hcz6_3 hcz6_4 hcz6_5 hfz6_0 hfz6_1 hfz6_2 hfz6_3 hfz6_4 hfz6_5 hx178_0 hx178_1 hx178_2 hx178_3 hx178_4 hx178_5 p178 q178
 obtain ⟨x3_2, x17_2, rfl, HA, HK2, HO_3, BK179, HB⟩ := hrel
 obtain _ | k2 := gk
 ·exact absurd HA.out (by simp [qAQ.l1])
 have H := HA.out
 clear HA
 simp only [qAQ.l1] at H
 by_cases c7 : x17_2 < (((qAB l0 x10_1).f4).length : Int)
 rotate_left
 ·rw [if_neg c7] at H
  have c7b0 := decide_eq_false c7
  clear c7
  have H' := qA0.mk H
  clear H
  go_wp2
  go_roundg k2
  case measure => have := HK1.out; have := HK2.out; omega
  case rel => exact ⟨(x3_2), (wrap64 (x10_1 + 1)), zs, H', ⟨by have := HK1.out; have := HK2.out; omega⟩, ⟨by (with_reducible repeat refine sS ?_); exact HO_3.out⟩, ⟨zb⟩⟩
 rw [if_pos c7] at H
 have c7b0 := decide_eq_true c7
 clear c7
 by_cases c8 : 0 ≤ x17_2
 rotate_left
 ·rw [if_neg c8] at H
  cases H
 rw [if_pos c8] at H
 have c8b0 := decide_eq_true c8
 clear c8
 by_cases c9 : x17_2 < (((qAB l0 x10_1).f4).length : Int)
 rotate_left
 ·rw [if_neg c9] at H
  cases H
 rw [if_pos c9] at H
 have c9b0 := decide_eq_true c9
 clear c9
 replace H := zi H
 obtain ⟨t182, A100, H⟩ := H
 have A10 := qA0.mk A100
 clear A100
 by_cases c11 : x3_2.length < 2199023255552
 rotate_left
 ·rw [if_neg c11] at H
  cases H
 rw [if_pos c11] at H
 have LMc11 := qA0.mk c11
 clear c11
 obtain ⟨y185, hy_⟩ : ∃ y_ : List (S95), y_ = (x3_2 ++ [(⟨(qBS ((qAB l0 x10_1).f4) x17_2).f0, (qBS ((qAB l0 x10_1).f4) x17_2).f1, (qBS ((qAB l0 x10_1).f4) x17_2).f2, (qBS ((qAB l0 x10_1).f4) x17_2).f3, t182⟩ : S95)]) := ⟨_, rfl⟩
 replace H : (qAQ.l1 k2 y185 l0 (l0.length : Int) x10_1 ((qAB l0 x10_1).f4) (((qAB l0 x10_1).f4).length : Int) (wrap64 (x17_2 + 1))) = some r := zr
 have Ny185 := qA0.mk hy_
 clear hy_
 have H' := qA0.mk H
 clear H
 have p180 : 0 ≤ (x17_2 : Int) := zd
 have q180 : x17_2 < (((qAB l0 x10_1).f4).length : Int) := zd
 obtain ⟨ad180, A180_4, c180_4, e180, hx180_0, hx180_1, hx180_2, hx180_3, hx180_4, hl180_4, hi180_4⟩ := at_T95 HR178_4.out x17_2 p180 q180
 cases e180
 (try replace hx180_0 := zh hx180_0)
 replace hx180_1 := zh hx180_1
 replace hx180_2 := zh hx180_2
 replace hx180_3 := zh hx180_3
 replace hx180_4 := zh hx180_4
 have HR180_4 := qA0.mk hi180_4
 have HC180_4 := qA0.mk hl180_4
 clear hi180_4 hl180_4
 replace p180 := eq_true p180
 replace q180 := eq_true q180
 go_wp2_with (first | ((with_reducible refine qA9 (N := 7) rfl ?_); refine boxZ 7 #[.string (⟨#[]⟩ : ByteArray), .int .i64 0, .int .i64 0, .bool false, .slice none 0 0] 95 ?_; intro gb181 hg w12 hbox hb; have BK181 := qA0.mk (hbox); have GW181 := zg w gb181; have GE181 := zg w gb181; have NB179_181 := zl BK179 gb181; have NB181_179 := zu BK179 gb181; replace HO_3 := qA0.mk (Kd.qDY (Kd.S_elderB (by (with_reducible repeat refine sS ?_); exact HO_3.out) gb181 (Nat.le_of_eq hg.symm)) hb); replace BK179 := zK BK179 hb; replace HB := zB hb; clear hb hbox hg; have hnb13 := NB181_179.out; have hnc13 := NB179_181.out; obtain ⟨hcz14_0, hcz14_1, hcz14_2, hcz14_3, hcz14_4, hfz14_0, hfz14_1, hfz14_2, hfz14_3, hfz14_4⟩ := bc5 BK181.out) | (at_builtin; refine nilapp_ (some 23) rfl rfl _ _ _ rfl rfl rfl (.slice A180_4 ((qBS ((qAB l0 x10_1).f4) x17_2).f4).length c180_4) rfl ?_; (with_reducible refine (qD3.calls _ _ ((qBS ((qAB l0 x10_1).f4) x17_2).f4) t182 _ ?side1 ?side2 A10.out).mono ?_); (case side1 => exact Kd.qAE HR180_4.out zb); (case side2 => exact HC180_4.out); rintro e w15 ⟨v183, rfl, ho0, hb⟩; refine ⟨_, rfl, ?_⟩; have HO184 := qA0.mk (Kd.qCI ho0 (qAI zb)); replace HO_3 := qA0.mk (Kd.S_elder' (by (with_reducible repeat refine sS ?_); exact (zSf5 (Kd.qDQ HO_3.out (fun k_ hk => (⟨hk, hk.2⟩ : _ ∧ k_ ≠ gb181))))) (Kd.R_base ho0) hb); replace BK179 := qA0.mk (qAL (g := gb179) (o := .cells #[.string ((qAB l0 x10_1).f0), .int .i64 ((qAB l0 x10_1).f1), .int .i64 ((qAB l0 x10_1).f2), .slice A178_3 ((qAB l0 x10_1).f3).length c178_3, .slice (some ad180) ((qAB l0 x10_1).f4).length c178_4, .slice A178_5 ((qAB l0 x10_1).f5).length c178_5] 76 (0, 0)) (by refine zf5 ?_ NB179_181; (with_reducible repeat refine st ?_); exact BK179.out) hb); replace BK181 := qA0.mk (qAL (zp5 BK181) hb); replace HB := zB hb; (try clear hb hk); (try clear hb); (try clear ho0); obtain ⟨Ao16, co16, eo16⟩ := Kd.qBV HO184.out; subst eo16; obtain ⟨hcz17_0, hcz17_1, hcz17_2, hcz17_3, hcz17_4, hfz17_0, hfz17_1, hfz17_2, hfz17_3, hfz17_4⟩ := bc5 BK181.out) | ((with_reducible refine qDP (t := 93) (p := 24) rfl ?_); refine qE8 (t := 93) (p := 24) (v := ?vo_w18) (w1 := (w15.setCell ⟨gb181, 4, none⟩ (.slice Ao16 t182.length co16))) ?hg ?ho ?hn ?hr ?_; (case ho => rfl); (case hg => rfl); (case hn => rfl); (case hr => first | (go_simp; done) | (go_simp; rfl)); intro w18 hw; have n0_ : qA0 (Kd.S k95 95 w18 w.heap.size (fun k_ => some k_ ≠ (.slice Ao16 t182.length co16 : Value).ownBlock ∧ k_ ≠ gb181) u3 x3_2) := ⟨(by rw [hw]; exact (by (with_reducible repeat refine sS ?_); exact Kd.qDQ (Kd.qCH (Kd.qDQ HO_3.out (fun k_ hk => (⟨hk, hk.1.2⟩ : _ ∧ k_ ≠ gb181))) (fun _ hk => hk.2) _) (fun _ hk => ⟨hk.1.2, hk.1.1.2⟩)))⟩; have n1_ : qA0 (Kd.R k134 134 w18 w.heap.size (fun _ => True) (.slice Ao16 t182.length co16) t182) := ⟨(by rw [hw]; exact (by (with_reducible repeat refine sR ?_); exact Kd.qB7 (Kd.qAW (Kd.qBG HO184.out BK181.out (by decide)) (fun _ hk => hk.2) _) (fun _ hk => trivial)))⟩; have n2_ : qA0 (w18.heap[gb179]? = some (.cells #[.string ((qAB l0 x10_1).f0), .int .i64 ((qAB l0 x10_1).f1), .int .i64 ((qAB l0 x10_1).f2), .slice A178_3 ((qAB l0 x10_1).f3).length c178_3, .slice (some ad180) ((qAB l0 x10_1).f4).length c178_4, .slice A178_5 ((qAB l0 x10_1).f5).length c178_5] 76 (0, 0))) := ⟨(by rw [hw]; exact (by refine zf_ ?_ NB179_181; (with_reducible repeat refine st ?_); exact BK179.out))⟩; have n3_ : qA0 (w18.heap[gb181]? = some (.cells #[.string ((qBS ((qAB l0 x10_1).f4) x17_2).f0), .int .i64 ((qBS ((qAB l0 x10_1).f4) x17_2).f1), .int .i64 ((qBS ((qAB l0 x10_1).f4) x17_2).f2), .bool ((qBS ((qAB l0 x10_1).f4) x17_2).f3), .slice Ao16 t182.length co16] 95 (0, 0))) := ⟨(by rw [hw]; exact (by refine zp_ (cs := #[.string ((qBS ((qAB l0 x10_1).f4) x17_2).f0), .int .i64 ((qBS ((qAB l0 x10_1).f4) x17_2).f1), .int .i64 ((qBS ((qAB l0 x10_1).f4) x17_2).f2), .bool ((qBS ((qAB l0 x10_1).f4) x17_2).f3), .slice A180_4 ((qBS ((qAB l0 x10_1).f4) x17_2).f4).length c180_4]) ?_ 4; (with_reducible repeat refine st ?_); exact BK181.out))⟩; have n4_ : qA0 (Below w.heap.size w w18) := ⟨(by rw [hw]; exact zb)⟩; clear hw; clear HO_3; clear HO184; clear BK179; clear BK181; clear HB; have HO_3 := n0_; have HO184 := n1_; have BK179 := n2_; have BK181 := n3_; have HB := n4_; clear n0_ n1_ n2_ n3_ n4_; obtain ⟨hcz19_0, hcz19_1, hcz19_2, hcz19_3, hcz19_4, hfz19_0, hfz19_1, hfz19_2, hfz19_3, hfz19_4⟩ := bc5 BK181.out) | ((with_reducible refine qDS (b := .append) (xs := #[.tmp 25, .tmp 27]) rfl ?_); at_builtin; refine Kd.S_append k95 (w0 := w) w.heap.size rfl (.tmp 25) (.tmp 27) 74 95 (.agg #[(.string ⟨#[]⟩), (.int .i64 0), (.int .i64 0), (.bool false), (.slice none 0 0)]) 64 rfl Tryz.underlying74 info95 rfl (by decide) (by omega) u3 x3_2 (⟨(qBS ((qAB l0 x10_1).f4) x17_2).f0, (qBS ((qAB l0 x10_1).f4) x17_2).f1, (qBS ((qAB l0 x10_1).f4) x17_2).f2, (qBS ((qAB l0 x10_1).f4) x17_2).f3, t182⟩ : S95) [.string ((qBS ((qAB l0 x10_1).f4) x17_2).f0), .int .i64 ((qBS ((qAB l0 x10_1).f4) x17_2).f1), .int .i64 ((qBS ((qAB l0 x10_1).f4) x17_2).f2), .bool ((qBS ((qAB l0 x10_1).f4) x17_2).f3), .slice Ao16 t182.length co16] (fun k_ => k_ ≠ gb181) (fun k_ => some k_ = (.slice Ao16 t182.length co16 : Value).ownBlock) rfl rfl ?aP (fun k_ hk_ => ((Kd.qB7 (ok' := fun k_ => ((fun k_ => k_ ≠ gb181)) k_ ∧ some k_ ≠ (u3 : Value).ownBlock) (Kd.qBG (Kd.qEU (HO184.out) (Kd.S_typed HO_3.out) (by decide)) BK181.out (by decide)) (fun k_ hk => ⟨hk.2, hk.1.2⟩))).1 k_ hk_.symm) ?aF ?aO ?aB ?aS ?aL ?_; (case aP => exact k95_mkM _ _ _ (⟨(qBS ((qAB l0 x10_1).f4) x17_2).f0, (qBS ((qAB l0 x10_1).f4) x17_2).f1, (qBS ((qAB l0 x10_1).f4) x17_2).f2, (qBS ((qAB l0 x10_1).f4) x17_2).f3, t182⟩ : S95) (Kd.qB7 (Kd.qF7 rfl (Kd.qB7 (ok' := fun k_ => ((fun k_ => k_ ≠ gb181)) k_ ∧ some k_ ≠ (u3 : Value).ownBlock) (Kd.qBG (Kd.qEU (HO184.out) (Kd.S_typed HO_3.out) (by decide)) BK181.out (by decide)) (fun k_ hk => ⟨hk.2, hk.1.2⟩))) (fun _ h_ => h_))); (case aB => exact zb); (case aF => exact (fun k_ hk => Kd.freshB (g := gb181) (o := .cells #[.string ((qBS ((qAB l0 x10_1).f4) x17_2).f0), .int .i64 ((qBS ((qAB l0 x10_1).f4) x17_2).f1), .int .i64 ((qBS ((qAB l0 x10_1).f4) x17_2).f2), .bool ((qBS ((qAB l0 x10_1).f4) x17_2).f3), .slice Ao16 t182.length co16] 95 (0, 0)) (zk BK181) k_ hk)); (case aO => exact (by (with_reducible repeat refine sS ?_); exact Kd.qDQ HO_3.out (fun k_ hk => ⟨hk.2, fun e_ => hk.1 e_⟩))); (case aS => exact (qAI zb)); (case aL => have := LMc11.out; omega); intro v186 w20 ho hb hg hat; rw [← Ny185.out] at ho; have HO187 := qA0.mk (ho); replace BK179 := qA0.mk (qAO (g := gb179) (o := .cells #[.string ((qAB l0 x10_1).f0), .int .i64 ((qAB l0 x10_1).f1), .int .i64 ((qAB l0 x10_1).f2), .slice A178_3 ((qAB l0 x10_1).f3).length c178_3, .slice (some ad180) ((qAB l0 x10_1).f4).length c178_4, .slice A178_5 ((qAB l0 x10_1).f5).length c178_5] 76 (0, 0)) (zk BK179) hg (Kd.S_ne HO_3.out BK179.out (by decide))); replace BK181 := qA0.mk (qAO (g := gb181) (o := .cells #[.string ((qBS ((qAB l0 x10_1).f4) x17_2).f0), .int .i64 ((qBS ((qAB l0 x10_1).f4) x17_2).f1), .int .i64 ((qBS ((qAB l0 x10_1).f4) x17_2).f2), .bool ((qBS ((qAB l0 x10_1).f4) x17_2).f3), .slice Ao16 t182.length co16] 95 (0, 0)) (zk BK181) hg (Kd.S_away HO_3.out (fun _ hk => hk.2))); replace HB := qA0.mk (hb); clear HO184; clear HO_3; clear ho hb hg hat))
 go_roundg k2
 case measure => have := HK1.out; have := HK2.out; omega
 case rel => exact ⟨(y185), (wrap64 (x17_2 + 1)), zs, H', ⟨by have := HK1.out; have := HK2.out; omega⟩, ⟨by (with_reducible repeat refine sS ?_); exact Kd.qDQ HO187.out (fun _ hk => trivial)⟩, ⟨zk BK179⟩, ⟨zb⟩⟩
def qAD.l0 : Nat → Int → List Int → Int → Int → Option (Bool)
 | 0, _, _, _, _ => none
 | k + 1, x0, x7, x8, x9 => if x9 < x8 then (if 0 ≤ x9 then (if x9 < (x7.length : Int) then (if x0 = (rd x7 x9) then (some true) else (qAD.l0 k x0 x7 x8 (wrap64 (x9 + 1)))) else (none)) else (none)) else (some (x0 == 0))
def qAD.f (k : Nat) (a0 : Int) (l1 : List Int) : Option (Bool) := qAD.l0 k a0 l1 (l1.length : Int) 0
theorem qAD.qC6 : ∀ k, (∀ y0 y1 y2 y3, LeO (qAD.l0 k y0 y1 y2 y3) (qAD.l0 (k + 1) y0 y1 y2 y3))
 | 0 => fun _ _ _ _ r h => by simp [qAD.l0] at h
 | k + 1 => by
  have ih0 := qAD.qC6 k
  ·intro y0 y1 y2 y3
   unfold qAD.l0
   exact zm
theorem qAD.mono : ∀ a0 a1 k, LeO (qAD.f k a0 a1) (qAD.f (k + 1) a0 a1) := by
 intro a0 a1 k
 have ih0 := qAD.qC6 k
 unfold qAD.f
 exact zm
theorem qAD.calls (k : Nat) (a0 : Int) (A1 : Option Addr) (c1 : Nat) (l1 : List Int) (r : Bool) (w : World) (hr1 : Kd.C (Kd.int .i64) w A1 l1.length l1) (hc1 : l1.length ≤ c1) (h : qAD.f k a0 l1 = some r) :
  Calls Tryz.prog 144 #[.int .i64 a0, .slice A1 l1.length c1] w fun e w' => e = .returned (.bool r) ∧ qAX w w' := by
 have HR1 := qA0.mk hr1
 have HC1 := qA0.mk hc1
 clear hr1 hc1
 have H := h
 unfold qAD.f at H
 clear h
 have H' := qA0.mk H
 clear H
 go_enter Tryz.func144, Tryz.ntmps144
 go_wp2
 go_loopg [9] k (fun kq v9 w' => ∃ (x9_1 : Int), v9 = .int .i64 x9_1 ∧ qA0 (qAD.l0 kq a0 l1 (l1.length : Int) x9_1 = some r) ∧ qA0 (kq ≤ k) ∧ qAX w w')
 case atStart => exact ⟨(0), zs, H', ⟨Nat.le_refl _⟩, by repeat (first | exact qAX.refl _ | apply qAX.step)⟩
 clear H'
 obtain ⟨x9_1, rfl, HA, HK1, ⟨m1, rfl⟩⟩ := hrel
 obtain _ | k1 := gk
 ·exact absurd HA.out (by simp [qAD.l0])
 have H := HA.out
 clear HA
 simp only [qAD.l0] at H
 by_cases c3 : x9_1 < (l1.length : Int)
 rotate_left
 ·rw [if_neg c3] at H
  have c3b0 := decide_eq_false c3
  clear c3
  obtain rfl := Option.some.inj H
  go_wp2
  go_ret
  exact ⟨zs, zD⟩
 rw [if_pos c3] at H
 have c3b0 := decide_eq_true c3
 clear c3
 by_cases c4 : 0 ≤ x9_1
 rotate_left
 ·rw [if_neg c4] at H
  cases H
 rw [if_pos c4] at H
 have c4b0 := decide_eq_true c4
 clear c4
 by_cases c5 : x9_1 < (l1.length : Int)
 rotate_left
 ·rw [if_neg c5] at H
  cases H
 rw [if_pos c5] at H
 have c5b0 := decide_eq_true c5
 clear c5
 by_cases c6 : a0 = (rd l1 x9_1)
 ·rw [if_pos c6] at H
  have ⟨c6b0, c6b1⟩ := ze c6
  clear c6
  obtain rfl := Option.some.inj H
  have p188 : 0 ≤ (x9_1 : Int) := zd
  have q188 : x9_1 < (l1.length : Int) := zd
  obtain ⟨ad188, e188, hx188_0⟩ := Kd.qC2 HR1.out x9_1 p188 q188
  cases e188
  replace p188 := eq_true p188
  replace q188 := eq_true q188
  go_wp2
  go_ret
  exact ⟨zs, zD⟩
 rw [if_neg c6] at H
 have ⟨c6b0, c6b1⟩ := zn c6
 have H' := qA0.mk H
 clear H
 have p188 : 0 ≤ (x9_1 : Int) := zd
 have q188 : x9_1 < (l1.length : Int) := zd
 obtain ⟨ad188, e188, hx188_0⟩ := Kd.qC2 HR1.out x9_1 p188 q188
 cases e188
 replace p188 := eq_true p188
 replace q188 := eq_true q188
 go_wp2
 go_roundg k1
 case measure => have := HK1.out; omega
 case rel => exact ⟨(wrap64 (x9_1 + 1)), zs, H', ⟨by have := HK1.out; omega⟩, by repeat (first | exact qAX.refl _ | apply qAX.step)⟩
def qCQ.f (a0 : Int) (a1 : Int) : Option (Int × Bool) := if a0 = 0 then (some (a1, true)) else (if a1 = 0 then (some (a0, true)) else (if a0 = a1 then (some (a0, true)) else (some (0, false))))
theorem qCQ.calls (a0 : Int) (a1 : Int) (r1 : Int) (r2 : Bool) (w : World) (h : qCQ.f a0 a1 = some (r1, r2)) :
  Calls Tryz.prog 145 #[.int .i64 a0, .int .i64 a1] w fun e w' => e = .returned (.tuple #[.int .i64 r1, .bool r2]) ∧ qAX w w' := by
 have H := h
 unfold qCQ.f at H
 clear h
 by_cases c3 : a0 = 0
 ·rw [if_pos c3] at H
  have ⟨c3b0, c3b1⟩ := ze c3
  clear c3
  simp only [Option.some.injEq, Prod.mk.injEq] at H
  obtain ⟨rfl, rfl⟩ := H
  go_enter Tryz.func145, Tryz.ntmps145
  go_wp2
  go_ret2
  exact ⟨zs, zD⟩
 rw [if_neg c3] at H
 have ⟨c3b0, c3b1⟩ := zn c3
 by_cases c4 : a1 = 0
 ·rw [if_pos c4] at H
  have ⟨c4b0, c4b1⟩ := ze c4
  clear c4
  simp only [Option.some.injEq, Prod.mk.injEq] at H
  obtain ⟨rfl, rfl⟩ := H
  go_enter Tryz.func145, Tryz.ntmps145
  go_wp2
  go_ret2
  exact ⟨zs, zD⟩
 rw [if_neg c4] at H
 have ⟨c4b0, c4b1⟩ := zn c4
 by_cases c5 : a0 = a1
 rotate_left
 ·rw [if_neg c5] at H
  have ⟨c5b0, c5b1⟩ := zn c5
  simp only [Option.some.injEq, Prod.mk.injEq] at H
  obtain ⟨rfl, rfl⟩ := H
  go_enter Tryz.func145, Tryz.ntmps145
  go_wp2
  go_ret2
  exact ⟨zs, zD⟩
 rw [if_pos c5] at H
 have ⟨c5b0, c5b1⟩ := ze c5
 clear c5
 simp only [Option.some.injEq, Prod.mk.injEq] at H
 obtain ⟨rfl, rfl⟩ := H
 go_enter Tryz.func145, Tryz.ntmps145
 go_wp2
 go_ret2
 exact ⟨zs, zD⟩
mutual
def qB0.j0 : Nat → Int → Int → Int → Bool → Option (Int × Bool)
 | 0, _, _, _, _ => none
 | k + 1, x0, x1, x2, x8 => if x8 = true then (some (0, false)) else (if x1 = 0 then (qB0.j1 k x0 x1 x2 true) else (qB0.j1 k x0 x1 x2 (x2 == 0)))
def qB0.j1 : Nat → Int → Int → Int → Bool → Option (Int × Bool)
 | 0, _, _, _, _ => none
 | k + 1, x0, x1, x2, x15 => if x15 = true then (if x2 = 4 then (some (0, (x0 == 11))) else (some (0, true))) else (if x1 = 4 then (qB0.j2 k x0 x1 x2 (x2 == 3)) else (qB0.j2 k x0 x1 x2 false))
def qB0.j2 : Nat → Int → Int → Int → Bool → Option (Int × Bool)
 | 0, _, _, _, _ => none
 | k + 1, x0, x1, x2, x28 => if x28 = true then (some (4, true)) else (if x1 = 4 then (if x2 = 4 then (some (3, (x0 == 11))) else (some (x1, (x1 == x2)))) else (some (x1, (x1 == x2))))
end
def qB0.f (k : Nat) (a0 : Int) (a1 : Int) (a2 : Int) : Option (Int × Bool) := if a1 = 1 then (qB0.j0 k a0 a1 a2 true) else (qB0.j0 k a0 a1 a2 (a2 == 1))
theorem qB0.qC6 : ∀ k, (∀ y0 y1 y2 y3, LeO (qB0.j0 k y0 y1 y2 y3) (qB0.j0 (k + 1) y0 y1 y2 y3)) ∧ (∀ y0 y1 y2 y3, LeO (qB0.j1 k y0 y1 y2 y3) (qB0.j1 (k + 1) y0 y1 y2 y3)) ∧ (∀ y0 y1 y2 y3, LeO (qB0.j2 k y0 y1 y2 y3) (qB0.j2 (k + 1) y0 y1 y2 y3))
 | 0 => ⟨fun _ _ _ _ r h => by simp [qB0.j0] at h, fun _ _ _ _ r h => by simp [qB0.j1] at h, fun _ _ _ _ r h => by simp [qB0.j2] at h⟩
 | k + 1 => by
  obtain ⟨ih0, ih1, ih2⟩ := qB0.qC6 k
  refine ⟨?_, ?_, ?_⟩
  ·intro y0 y1 y2 y3
   unfold qB0.j0
   exact zm
  ·intro y0 y1 y2 y3
   unfold qB0.j1
   exact zm
  ·intro y0 y1 y2 y3
   unfold qB0.j2
   exact zm
theorem qB0.mono : ∀ a0 a1 a2 k, LeO (qB0.f k a0 a1 a2) (qB0.f (k + 1) a0 a1 a2) := by
 intro a0 a1 a2 k
 obtain ⟨ih0, ih1, ih2⟩ := qB0.qC6 k
 unfold qB0.f
 exact zm
theorem qB0.calls (k : Nat) (a0 : Int) (a1 : Int) (a2 : Int) (r1 : Int) (r2 : Bool) (w : World) (h : qB0.f k a0 a1 a2 = some (r1, r2)) :
  Calls Tryz.prog 146 #[.int .i64 a0, .int .i64 a1, .int .i64 a2] w fun e w' => e = .returned (.tuple #[.int .i64 r1, .bool r2]) ∧ qAX w w' := by
 have H := h
 unfold qB0.f at H
 clear h
 have HC4 := qA0.mk H
 clear H
 go_enter Tryz.func146, Tryz.ntmps146
 go_upto_region 1 with (fail)
 go_cut [8] (fun v8 wc => ∃ (kq : Nat) (x8_3 : Bool), v8 = .bool x8_3 ∧ qA0 (qB0.j0 kq a0 a1 a2 x8_3 = some (r1, r2)) ∧ qA0 (kq ≤ k) ∧ qAX w wc)
 case first =>
  have H := HC4.out
  clear HC4
  by_cases c5 : a1 = 1
  rotate_left
  ·rw [if_neg c5] at H
   have ⟨c5b0, c5b1⟩ := zn c5
   (first | rw [c5b0] | (simp only [qC9, qCB]; rw [c5b0]) | skip)
   have H' := qA0.mk H
   clear H
   go_wp2
   go_meet
   case rel => exact ⟨_, ((a2 == 1)), zs, H', ⟨by first | omega | exact Nat.le_refl _⟩, by repeat (first | exact qAX.refl _ | apply qAX.step)⟩
  rw [if_pos c5] at H
  have ⟨c5b0, c5b1⟩ := ze c5
  clear c5
  (first | rw [c5b0] | (simp only [qC9, qCB]; rw [c5b0]) | skip)
  have H' := qA0.mk H
  clear H
  go_wp2
  go_meet
  case rel => exact ⟨_, (true), zs, H', ⟨by first | omega | exact Nat.le_refl _⟩, by repeat (first | exact qAX.refl _ | apply qAX.step)⟩
 clear HC4
 obtain ⟨kq, x8_3, rfl, HA, HJ3, ⟨mc3, rfl⟩⟩ := hcut
 obtain _ | kj3 := kq
 ·exact absurd HA.out (by simp [qB0.j0])
 have H := HA.out
 clear HA
 simp only [qB0.j0] at H
 by_cases c6 : x8_3 = true
 ·subst c6
  rw [if_pos rfl] at H
  simp only [Option.some.injEq, Prod.mk.injEq] at H
  obtain ⟨rfl, rfl⟩ := H
  go_wp2
  go_ret2
  exact ⟨zs, zD⟩
 replace c6 := Bool.eq_false_iff.mpr c6
 subst c6
 rw [zj] at H
 have HC7 := qA0.mk H
 clear H
 go_upto_region 3 with (fail)
 go_cut [15] (fun v15 wc => ∃ (kq : Nat) (x15_6 : Bool), v15 = .bool x15_6 ∧ qA0 (qB0.j1 kq a0 a1 a2 x15_6 = some (r1, r2)) ∧ qA0 (kq ≤ kj3) ∧ qAX w wc)
 case first =>
  have H := HC7.out
  clear HC7
  by_cases c8 : a1 = 0
  rotate_left
  ·rw [if_neg c8] at H
   have ⟨c8b0, c8b1⟩ := zn c8
   (first | rw [c8b0] | (simp only [qC9, qCB]; rw [c8b0]) | skip)
   have H' := qA0.mk H
   clear H
   go_wp2
   go_meet
   case rel => exact ⟨_, ((a2 == 0)), zs, H', ⟨by have := HJ3.out; first | omega | exact Nat.le_refl _⟩, by repeat (first | exact qAX.refl _ | apply qAX.step)⟩
  rw [if_pos c8] at H
  have ⟨c8b0, c8b1⟩ := ze c8
  clear c8
  (first | rw [c8b0] | (simp only [qC9, qCB]; rw [c8b0]) | skip)
  have H' := qA0.mk H
  clear H
  go_wp2
  go_meet
  case rel => exact ⟨_, (true), zs, H', ⟨by have := HJ3.out; first | omega | exact Nat.le_refl _⟩, by repeat (first | exact qAX.refl _ | apply qAX.step)⟩
 clear HC7
 obtain ⟨kq, x15_6, rfl, HA, HJ6, ⟨mc6, rfl⟩⟩ := hcut
 obtain _ | kj6 := kq
 ·exact absurd HA.out (by simp [qB0.j1])
 have H := HA.out
 clear HA
 simp only [qB0.j1] at H
 by_cases c9 : x15_6 = true
 ·subst c9
  rw [if_pos rfl] at H
  by_cases c10 : a2 = 4
  rotate_left
  ·rw [if_neg c10] at H
   have ⟨c10b0, c10b1⟩ := zn c10
   simp only [Option.some.injEq, Prod.mk.injEq] at H
   obtain ⟨rfl, rfl⟩ := H
   go_wp2
   go_ret2
   exact ⟨zs, zD⟩
  rw [if_pos c10] at H
  have ⟨c10b0, c10b1⟩ := ze c10
  clear c10
  simp only [Option.some.injEq, Prod.mk.injEq] at H
  obtain ⟨rfl, rfl⟩ := H
  go_wp2
  go_ret2
  exact ⟨zs, zD⟩
 replace c9 := Bool.eq_false_iff.mpr c9
 subst c9
 rw [zj] at H
 have HC11 := qA0.mk H
 clear H
 go_upto_region 5 with (fail)
 go_cut [28] (fun v28 wc => ∃ (kq : Nat) (x28_10 : Bool), v28 = .bool x28_10 ∧ qA0 (qB0.j2 kq a0 a1 a2 x28_10 = some (r1, r2)) ∧ qA0 (kq ≤ kj6) ∧ qAX w wc)
 case first =>
  have H := HC11.out
  clear HC11
  by_cases c12 : a1 = 4
  rotate_left
  ·rw [if_neg c12] at H
   have ⟨c12b0, c12b1⟩ := zn c12
   (first | rw [c12b0] | (simp only [qC9, qCB]; rw [c12b0]) | skip)
   have H' := qA0.mk H
   clear H
   go_wp2
   go_meet
   case rel => exact ⟨_, (false), zs, H', ⟨by have := HJ3.out; have := HJ6.out; first | omega | exact Nat.le_refl _⟩, by repeat (first | exact qAX.refl _ | apply qAX.step)⟩
  rw [if_pos c12] at H
  have ⟨c12b0, c12b1⟩ := ze c12
  clear c12
  (first | rw [c12b0] | (simp only [qC9, qCB]; rw [c12b0]) | skip)
  have H' := qA0.mk H
  clear H
  go_wp2
  go_meet
  case rel => exact ⟨_, ((a2 == 3)), zs, H', ⟨by have := HJ3.out; have := HJ6.out; first | omega | exact Nat.le_refl _⟩, by repeat (first | exact qAX.refl _ | apply qAX.step)⟩
 clear HC11
 obtain ⟨kq, x28_10, rfl, HA, HJ10, ⟨mc10, rfl⟩⟩ := hcut
 obtain _ | kj10 := kq
 ·exact absurd HA.out (by simp [qB0.j2])
 have H := HA.out
 clear HA
 simp only [qB0.j2] at H
 by_cases c13 : x28_10 = true
 ·subst c13
  rw [if_pos rfl] at H
  simp only [Option.some.injEq, Prod.mk.injEq] at H
  obtain ⟨rfl, rfl⟩ := H
  go_wp2
  go_ret2
  exact ⟨zs, zD⟩
 replace c13 := Bool.eq_false_iff.mpr c13
 subst c13
 rw [zj] at H
 by_cases c14 : a1 = 4
 rotate_left
 ·rw [if_neg c14] at H
  have ⟨c14b0, c14b1⟩ := zn c14
  simp only [Option.some.injEq, Prod.mk.injEq] at H
  obtain ⟨rfl, rfl⟩ := H
  go_wp2
  go_ret2
  exact ⟨zs, zD⟩
 rw [if_pos c14] at H
 have ⟨c14b0, c14b1⟩ := ze c14
 clear c14
 by_cases c15 : a2 = 4
 rotate_left
 ·rw [if_neg c15] at H
  have ⟨c15b0, c15b1⟩ := zn c15
  simp only [Option.some.injEq, Prod.mk.injEq] at H
  obtain ⟨rfl, rfl⟩ := H
  go_wp2
  go_ret2
  exact ⟨zs, zD⟩
 rw [if_pos c15] at H
 have ⟨c15b0, c15b1⟩ := ze c15
 clear c15
 simp only [Option.some.injEq, Prod.mk.injEq] at H
 obtain ⟨rfl, rfl⟩ := H
 go_wp2
 go_ret2
 exact ⟨zs, zD⟩
mutual
def qAM.j0 : Nat → Int → Int → Bool → Option (Int × Bool)
 | 0, _, _, _ => none
 | k + 1, x0, x1, x6 => if x6 = true then (some (0, false)) else (if x0 = 0 then (qAM.j1 k x0 x1 true) else (qAM.j1 k x0 x1 (x1 == 0)))
def qAM.j1 : Nat → Int → Int → Bool → Option (Int × Bool)
 | 0, _, _, _ => none
 | k + 1, x0, x1, x17 => if x17 = true then (some (0, true)) else (if x1 = 5 then (if x0 = 2 then (some (x0, true)) else (some (x0, (x0 == 3)))) else (some (x0, true)))
end
def qAM.f (k : Nat) (a0 : Int) (a1 : Int) : Option (Int × Bool) := (qAD.f k a0 (([2, 3, 5, 6] : List Int))).bind fun t192 => (if t192 = true then ((qAD.f k a1 (([5, 6] : List Int))).bind fun t196 => (qAM.j0 k a0 a1 (!t196))) else (qAM.j0 k a0 a1 true))
theorem qAM.qC6 : ∀ k, (∀ y0 y1 y2, LeO (qAM.j0 k y0 y1 y2) (qAM.j0 (k + 1) y0 y1 y2)) ∧ (∀ y0 y1 y2, LeO (qAM.j1 k y0 y1 y2) (qAM.j1 (k + 1) y0 y1 y2))
 | 0 => ⟨fun _ _ _ r h => by simp [qAM.j0] at h, fun _ _ _ r h => by simp [qAM.j1] at h⟩
 | k + 1 => by
  obtain ⟨ih0, ih1⟩ := qAM.qC6 k
  refine ⟨?_, ?_⟩
  ·intro y0 y1 y2
   unfold qAM.j0
   have im0 := @qAD.mono
   exact zm
  ·intro y0 y1 y2
   unfold qAM.j1
   have im0 := @qAD.mono
   exact zm
theorem qAM.mono : ∀ a0 a1 k, LeO (qAM.f k a0 a1) (qAM.f (k + 1) a0 a1) := by
 intro a0 a1 k
 obtain ⟨ih0, ih1⟩ := qAM.qC6 k
 unfold qAM.f
 have im0 := @qAD.mono
 exact zm
theorem qAM.calls (k : Nat) (a0 : Int) (a1 : Int) (r1 : Int) (r2 : Bool) (w : World) (h : qAM.f k a0 a1 = some (r1, r2)) :
  Calls Tryz.prog 147 #[.int .i64 a0, .int .i64 a1] w fun e w' => e = .returned (.tuple #[.int .i64 r1, .bool r2]) ∧ Below w.heap.size w w' := by
 have HB := qA0.mk (Below.refl w.heap.size w)
 have H := h
 unfold qAM.f at H
 clear h
 have HC3 := qA0.mk H
 clear H
 go_enter Tryz.func147, Tryz.ntmps147
 go_upto_region 1 with (fail)
 go_cut [6] (fun v6 wc => ∃ (kq : Nat) (x6_2 : Bool), v6 = .bool x6_2 ∧ qA0 (qAM.j0 kq a0 a1 x6_2 = some (r1, r2)) ∧ qA0 (kq ≤ k) ∧ qA0 (Below w.heap.size w wc))
 case first =>
  have H := HC3.out
  clear HC3
  obtain ⟨y189, hy_⟩ : ∃ y_ : List Int, y_ = (([2, 3, 5, 6] : List Int)) := ⟨_, rfl⟩
  replace H : ((qAD.f k a0 y189).bind fun t192 => (if t192 = true then ((qAD.f k a1 (([5, 6] : List Int))).bind fun t196 => (qAM.j0 k a0 a1 (!t196))) else (qAM.j0 k a0 a1 true))) = some (r1, r2) := zr
  have Ny189 := qA0.mk hy_
  clear hy_
  replace H := zi H
  obtain ⟨t192, A40, H⟩ := H
  have A4 := qA0.mk A40
  clear A40
  by_cases c5 : t192 = true
  rotate_left
  ·replace c5 := Bool.eq_false_iff.mpr c5
   subst c5
   rw [zj] at H
   have H' := qA0.mk H
   clear H
   go_wp2_with (first | ((with_reducible refine qA9 (N := 8) rfl ?_); (try (refine qBD (by rfl) ?_; dsimp only)); refine Kd.R_lit (Kd.int .i64) _ 3 ?hg (N := 8) ?hd (xs := ([2, 3, 5, 6] : List Int)) (inner := [.int .i64 2, .int .i64 3, .int .i64 5, .int .i64 6]) (ok := fun _ => True) (okp := fun _ => True) ?hr ?hp (fun _ hk => hk) trivial (Below.refl _ _) (Nat.le_refl _) (by simp) ?_; (case hd => rfl); (case hg => rfl); (case hr => first | (go_simp; done) | (go_simp; rfl)); (case hp => exact (Reps.one (show Kd.M (Kd.int .i64) _ _ _ 2 [.int .i64 2] from rfl) (Reps.one (show Kd.M (Kd.int .i64) _ _ _ 3 [.int .i64 3] from rfl) (Reps.one (show Kd.M (Kd.int .i64) _ _ _ 5 [.int .i64 5] from rfl) (Reps.one (show Kd.M (Kd.int .i64) _ _ _ 6 [.int .i64 6] from rfl) (Reps.none _ _)))))); intro v190 w13 ho14 hb hg_ hnew_; clear hg_ hnew_; (first | rw [← Ny189.out] at ho14 | (simp only [Int.reduceToNat] at ho14; rw [← Ny189.out] at ho14)); have HO191 := qA0.mk (Kd.qCI ho14 (qAI zb)); replace HB := zB hb; clear hb ho14; obtain ⟨Ao15, co15, eo15⟩ := Kd.qBV HO191.out; subst eo15) | ((with_reducible refine qA6 (f := 144) rfl ?_); refine qBP (some 9) Tryz.func144 #[.int .i64 a0, .slice Ao15 y189.length co15] ?_; (with_reducible refine (qAD.calls k a0 _ _ y189 false _ ?side1 ?side2 A4.out).mono ?_); (case side1 => repeat (first | exact (Kd.qB3 HO191.out).2.2 | refine sC ?_)); (case side2 => exact (Kd.qB3 HO191.out).2.1); rintro e w' ⟨rfl, ⟨nd, rfl⟩⟩; refine ⟨_, rfl, ?_⟩))
   go_meet
   case rel => exact ⟨_, (true), zs, H', ⟨by first | omega | exact Nat.le_refl _⟩, ⟨zb⟩⟩
  subst c5
  rw [if_pos rfl] at H
  obtain ⟨y193, hy_⟩ : ∃ y_ : List Int, y_ = (([5, 6] : List Int)) := ⟨_, rfl⟩
  replace H : ((qAD.f k a1 y193).bind fun t196 => (qAM.j0 k a0 a1 (!t196))) = some (r1, r2) := zr
  have Ny193 := qA0.mk hy_
  clear hy_
  replace H := zi H
  obtain ⟨t196, A60, H⟩ := H
  have A6 := qA0.mk A60
  clear A60
  have H' := qA0.mk H
  clear H
  go_wp2_with (first | ((with_reducible refine qA9 (N := 8) rfl ?_); (try (refine qBD (by rfl) ?_; dsimp only)); refine Kd.R_lit (Kd.int .i64) _ 3 ?hg (N := 8) ?hd (xs := ([2, 3, 5, 6] : List Int)) (inner := [.int .i64 2, .int .i64 3, .int .i64 5, .int .i64 6]) (ok := fun _ => True) (okp := fun _ => True) ?hr ?hp (fun _ hk => hk) trivial (Below.refl _ _) (Nat.le_refl _) (by simp) ?_; (case hd => rfl); (case hg => rfl); (case hr => first | (go_simp; done) | (go_simp; rfl)); (case hp => exact (Reps.one (show Kd.M (Kd.int .i64) _ _ _ 2 [.int .i64 2] from rfl) (Reps.one (show Kd.M (Kd.int .i64) _ _ _ 3 [.int .i64 3] from rfl) (Reps.one (show Kd.M (Kd.int .i64) _ _ _ 5 [.int .i64 5] from rfl) (Reps.one (show Kd.M (Kd.int .i64) _ _ _ 6 [.int .i64 6] from rfl) (Reps.none _ _)))))); intro v190 w7 ho8 hb hg_ hnew_; clear hg_ hnew_; (first | rw [← Ny189.out] at ho8 | (simp only [Int.reduceToNat] at ho8; rw [← Ny189.out] at ho8)); have HO191 := qA0.mk (Kd.qCI ho8 (qAI zb)); replace HB := zB hb; clear hb ho8; obtain ⟨Ao9, co9, eo9⟩ := Kd.qBV HO191.out; subst eo9) | ((with_reducible refine qA6 (f := 144) rfl ?_); refine qBP (some 9) Tryz.func144 #[.int .i64 a0, .slice Ao9 y189.length co9] ?_; (with_reducible refine (qAD.calls k a0 _ _ y189 true _ ?side1 ?side2 A4.out).mono ?_); (case side1 => repeat (first | exact (Kd.qB3 HO191.out).2.2 | refine sC ?_)); (case side2 => exact (Kd.qB3 HO191.out).2.1); rintro e w' ⟨rfl, ⟨nd, rfl⟩⟩; refine ⟨_, rfl, ?_⟩) | ((with_reducible refine qA9 (N := 13) rfl ?_); (try (refine qBD (by rfl) ?_; dsimp only)); refine Kd.R_lit (Kd.int .i64) _ 3 ?hg (N := 13) ?hd (xs := ([5, 6] : List Int)) (inner := [.int .i64 5, .int .i64 6]) (ok := fun _ => True) (okp := fun _ => True) ?hr ?hp (fun _ hk => hk) trivial (Below.refl _ _) (Nat.le_refl _) (by simp) ?_; (case hd => rfl); (case hg => rfl); (case hr => first | (go_simp; done) | (go_simp; rfl)); (case hp => exact (Reps.one (show Kd.M (Kd.int .i64) _ _ _ 5 [.int .i64 5] from rfl) (Reps.one (show Kd.M (Kd.int .i64) _ _ _ 6 [.int .i64 6] from rfl) (Reps.none _ _)))); intro v194 w10 ho11 hb hg_ hnew_; clear hg_ hnew_; (first | rw [← Ny193.out] at ho11 | (simp only [Int.reduceToNat] at ho11; rw [← Ny193.out] at ho11)); have HO195 := qA0.mk (Kd.qCI (Kd.R_new' ho11 (Kd.R_lt (by (with_reducible repeat refine sR ?_); exact HO191.out))) (qAI zb)); replace HO191 := qA0.mk (Kd.R_elder' (by (with_reducible repeat refine sR ?_); exact HO191.out) (Kd.R_base ho11) hb); replace HB := zB hb; clear hb ho11; obtain ⟨Ao12, co12, eo12⟩ := Kd.qBV HO195.out; subst eo12) | (go_at_call 144; (with_reducible refine (qAD.calls k a1 _ _ y193 t196 _ ?side1 ?side2 A6.out).mono ?_); (case side1 => repeat (first | exact (Kd.qB3 HO195.out).2.2 | refine sC ?_)); (case side2 => exact (Kd.qB3 HO195.out).2.1); rintro e w' ⟨rfl, ⟨nd, rfl⟩⟩))
  go_meet
  case rel => exact ⟨_, (!t196), zs, H', ⟨by first | omega | exact Nat.le_refl _⟩, ⟨zb⟩⟩
 clear HC3
 obtain ⟨kq, x6_2, rfl, HA, HJ2, HB⟩ := hcut
 obtain _ | kj2 := kq
 ·exact absurd HA.out (by simp [qAM.j0])
 have H := HA.out
 clear HA
 simp only [qAM.j0] at H
 by_cases c16 : x6_2 = true
 ·subst c16
  rw [if_pos rfl] at H
  simp only [Option.some.injEq, Prod.mk.injEq] at H
  obtain ⟨rfl, rfl⟩ := H
  go_wp2
  go_ret2
  exact ⟨zf, zb⟩
 replace c16 := Bool.eq_false_iff.mpr c16
 subst c16
 rw [zj] at H
 have HC17 := qA0.mk H
 clear H
 go_upto_region 3 with (fail)
 go_cut [17] (fun v17 wc => ∃ (kq : Nat) (x17_16 : Bool), v17 = .bool x17_16 ∧ qA0 (qAM.j1 kq a0 a1 x17_16 = some (r1, r2)) ∧ qA0 (kq ≤ kj2) ∧ qA0 (Below w.heap.size w wc))
 case first =>
  have H := HC17.out
  clear HC17
  by_cases c18 : a0 = 0
  rotate_left
  ·rw [if_neg c18] at H
   have ⟨c18b0, c18b1⟩ := zn c18
   (first | rw [c18b0] | (simp only [qC9, qCB]; rw [c18b0]) | skip)
   have H' := qA0.mk H
   clear H
   go_wp2
   go_meet
   case rel => exact ⟨_, ((a1 == 0)), zs, H', ⟨by have := HJ2.out; first | omega | exact Nat.le_refl _⟩, ⟨zb⟩⟩
  rw [if_pos c18] at H
  have ⟨c18b0, c18b1⟩ := ze c18
  clear c18
  (first | rw [c18b0] | (simp only [qC9, qCB]; rw [c18b0]) | skip)
  have H' := qA0.mk H
  clear H
  go_wp2
  go_meet
  case rel => exact ⟨_, (true), zs, H', ⟨by have := HJ2.out; first | omega | exact Nat.le_refl _⟩, ⟨zb⟩⟩
 clear HC17
 obtain ⟨kq, x17_16, rfl, HA, HJ16, HB⟩ := hcut
 obtain _ | kj16 := kq
 ·exact absurd HA.out (by simp [qAM.j1])
 have H := HA.out
 clear HA
 simp only [qAM.j1] at H
 by_cases c19 : x17_16 = true
 ·subst c19
  rw [if_pos rfl] at H
  simp only [Option.some.injEq, Prod.mk.injEq] at H
  obtain ⟨rfl, rfl⟩ := H
  go_wp2
  go_ret2
  exact ⟨zf, zb⟩
 replace c19 := Bool.eq_false_iff.mpr c19
 subst c19
 rw [zj] at H
 by_cases c20 : a1 = 5
 rotate_left
 ·rw [if_neg c20] at H
  have ⟨c20b0, c20b1⟩ := zn c20
  simp only [Option.some.injEq, Prod.mk.injEq] at H
  obtain ⟨rfl, rfl⟩ := H
  go_wp2
  go_ret2
  exact ⟨zf, zb⟩
 rw [if_pos c20] at H
 have ⟨c20b0, c20b1⟩ := ze c20
 clear c20
 by_cases c21 : a0 = 2
 rotate_left
 ·rw [if_neg c21] at H
  have ⟨c21b0, c21b1⟩ := zn c21
  simp only [Option.some.injEq, Prod.mk.injEq] at H
  obtain ⟨rfl, rfl⟩ := H
  go_wp2
  go_ret2
  exact ⟨zf, zb⟩
 rw [if_pos c21] at H
 have ⟨c21b0, c21b1⟩ := ze c21
 clear c21
 simp only [Option.some.injEq, Prod.mk.injEq] at H
 obtain ⟨rfl, rfl⟩ := H
 go_wp2
 go_ret2
 exact ⟨zf, zb⟩
end
end Go.Proofs.YtpafpefealopoaaGreat.PPopMakes
end
