/- A part of the proof of PopMakes: texts that were printed, words, walks. No condition. -/
import Derived.Test.YtpafpefealopoaaGreatC1
import Derived.Test.YtpafpefealopoaaGreatC3
set_option linter.unusedVariables false
set_option linter.unusedSimpArgs false
section
namespace Go.Proofs.YtpafpefealopoaaGreat.PPopMakes
noncomputable section
open Go.RowKit Go.Proofs.YtpafpefealopoaaGreatW.PrintWords Go.Proofs.YtpafpefealopoaaGreatW.PrintLast Go.Proofs.YtpafpefealopoaaGreatW.PrintMore
set_option maxHeartbeats 8000000
set_option maxRecDepth 100000
def qBT.l0 : Nat → Int → List Int → Int → Int → Option (Int)
 | 0, _, _, _, _ => none
 | k + 1, x3, x9, x10, x11 => if x11 < x10 then (if 0 ≤ x11 then (if x11 < (x9.length : Int) then (if (rd x9 x11) < 0 then (some 1) else (if (rd x9 x11) > 1048576 then (some 1) else (qBT.l0 k (wrap64 (x3 + (rd x9 x11))) x9 x10 (wrap64 (x11 + 1))))) else (none)) else (none)) else (if x3 = 0 then (some 11) else (some 0))
def qBT.f (k : Nat) (l0 : List Int) : Option (Int) := if (l0.length : Int) > 40 then (some 2) else (qBT.l0 k 0 l0 (l0.length : Int) 0)
theorem qBT.calls (k : Nat) (A0 : Option Addr) (c0 : Nat) (l0 : List Int) (r : Int) (w : World) (hr0 : Kd.C (Kd.int .i64) w A0 l0.length l0) (hc0 : l0.length ≤ c0) (h : qBT.f k l0 = some r) :
  Calls Tryz.prog 22 #[.slice A0 l0.length c0] w fun e w' => e = .returned (.int .i64 r) ∧ qAX w w' := by
 have HR0 := qA0.mk hr0
 have HC0 := qA0.mk hc0
 clear hr0 hc0
 have H := h
 unfold qBT.f at H
 clear h
 by_cases c2 : (l0.length : Int) > 40
 ·rw [if_pos c2] at H
  have c2b0 := decide_eq_true c2
  have c2b1 : decide (40 < l0.length) = true := decide_eq_true (by omega)
  clear c2
  obtain rfl := Option.some.inj H
  go_enter Tryz.func22, Tryz.ntmps22
  go_wp2
  go_ret
  exact ⟨zs, zD⟩
 rw [if_neg c2] at H
 have c2b0 := decide_eq_false c2
 have c2b1 : decide (40 < l0.length) = false := decide_eq_false (by omega)
 clear c2
 have H' := qA0.mk H
 clear H
 go_enter Tryz.func22, Tryz.ntmps22
 go_wp2
 go_loopg [3, 11] k (fun kq v3 v11 w' => ∃ (x3_1 : Int) (x11_1 : Int), v3 = .int .i64 x3_1 ∧ v11 = .int .i64 x11_1 ∧ qA0 (qBT.l0 kq x3_1 l0 (l0.length : Int) x11_1 = some r) ∧ qA0 (kq ≤ k) ∧ qAX w w')
 case atStart => exact ⟨(0), (0), zs, zs, H', ⟨Nat.le_refl _⟩, by repeat (first | exact qAX.refl _ | apply qAX.step)⟩
 clear H' c2b0 c2b1
 obtain ⟨x3_1, x11_1, rfl, rfl, HA, HK1, ⟨m1, rfl⟩⟩ := hrel
 obtain _ | k1 := gk
 ·exact absurd HA.out (by simp [qBT.l0])
 have H := HA.out
 clear HA
 simp only [qBT.l0] at H
 by_cases c3 : x11_1 < (l0.length : Int)
 rotate_left
 ·rw [if_neg c3] at H
  have c3b0 := decide_eq_false c3
  clear c3
  by_cases c8 : x3_1 = 0
  rotate_left
  ·rw [if_neg c8] at H
   have ⟨c8b0, c8b1⟩ := zn c8
   obtain rfl := Option.some.inj H
   go_wp2
   go_ret
   exact ⟨zs, zD⟩
  rw [if_pos c8] at H
  have ⟨c8b0, c8b1⟩ := ze c8
  clear c8
  obtain rfl := Option.some.inj H
  go_wp2
  go_ret
  exact ⟨zs, zD⟩
 rw [if_pos c3] at H
 have c3b0 := decide_eq_true c3
 clear c3
 by_cases c4 : 0 ≤ x11_1
 rotate_left
 ·rw [if_neg c4] at H
  cases H
 rw [if_pos c4] at H
 have c4b0 := decide_eq_true c4
 clear c4
 by_cases c5 : x11_1 < (l0.length : Int)
 rotate_left
 ·rw [if_neg c5] at H
  cases H
 rw [if_pos c5] at H
 have c5b0 := decide_eq_true c5
 clear c5
 by_cases c6 : (rd l0 x11_1) < 0
 ·rw [if_pos c6] at H
  have c6b0 := decide_eq_true c6
  clear c6
  obtain rfl := Option.some.inj H
  have p394 : 0 ≤ (x11_1 : Int) := zd
  have q394 : x11_1 < (l0.length : Int) := zd
  obtain ⟨ad394, e394, hx394_0⟩ := Kd.qC2 HR0.out x11_1 p394 q394
  cases e394
  replace p394 := eq_true p394
  replace q394 := eq_true q394
  go_wp2
  go_ret
  exact ⟨zs, zD⟩
 rw [if_neg c6] at H
 have c6b0 := decide_eq_false c6
 clear c6
 by_cases c7 : (rd l0 x11_1) > 1048576
 ·rw [if_pos c7] at H
  have c7b0 := decide_eq_true c7
  clear c7
  obtain rfl := Option.some.inj H
  have p394 : 0 ≤ (x11_1 : Int) := zd
  have q394 : x11_1 < (l0.length : Int) := zd
  obtain ⟨ad394, e394, hx394_0⟩ := Kd.qC2 HR0.out x11_1 p394 q394
  cases e394
  replace p394 := eq_true p394
  replace q394 := eq_true q394
  go_wp2
  go_ret
  exact ⟨zs, zD⟩
 rw [if_neg c7] at H
 have c7b0 := decide_eq_false c7
 clear c7
 have H' := qA0.mk H
 clear H
 have p394 : 0 ≤ (x11_1 : Int) := zd
 have q394 : x11_1 < (l0.length : Int) := zd
 obtain ⟨ad394, e394, hx394_0⟩ := Kd.qC2 HR0.out x11_1 p394 q394
 cases e394
 replace p394 := eq_true p394
 replace q394 := eq_true q394
 go_wp2
 go_roundg k1
 case measure => have := HK1.out; omega
 case rel => exact ⟨(wrap64 (x3_1 + (rd l0 x11_1))), (wrap64 (x11_1 + 1)), zs, zs, H', ⟨by have := HK1.out; omega⟩, by repeat (first | exact qAX.refl _ | apply qAX.step)⟩
def qEH.f (a0 : Int) : Option (Int) := some (Go.bits .xor .u64 (IntKind.u64.wrap ((Go.bits .xor .u64 (IntKind.u64.wrap ((Go.bits .xor .u64 a0 (a0 / 1073741824)) * 13787848793156543929)) ((IntKind.u64.wrap ((Go.bits .xor .u64 a0 (a0 / 1073741824)) * 13787848793156543929)) / 134217728)) * 10723151780598845931)) ((IntKind.u64.wrap ((Go.bits .xor .u64 (IntKind.u64.wrap ((Go.bits .xor .u64 a0 (a0 / 1073741824)) * 13787848793156543929)) ((IntKind.u64.wrap ((Go.bits .xor .u64 a0 (a0 / 1073741824)) * 13787848793156543929)) / 134217728)) * 10723151780598845931)) / 2147483648))
theorem qEH.calls (a0 : Int) (r : Int) (w : World) (h : qEH.f a0 = some r) :
  Calls Tryz.prog 60 #[.int .u64 a0] w fun e w' => e = .returned (.int .u64 r) ∧ qAX w w' := by
 have H := h
 unfold qEH.f at H
 clear h
 obtain rfl := Option.some.inj H
 go_enter Tryz.func60, Tryz.ntmps60
 go_wp2
 go_ret
 exact ⟨zs, zD⟩
def qES.f (a0 : Int) : Option (Int × Int) := (qEH.f (IntKind.u64.wrap (a0 + 11400714819323198485))).bind fun t450 => (some (t450, IntKind.u64.wrap (a0 + 11400714819323198485)))
theorem qES.calls (a0 : Int) (r1 : Int) (r2 : Int) (w : World) (h : qES.f a0 = some (r1, r2)) :
  Calls Tryz.prog 83 #[.int .u64 a0] w fun e w' => e = .returned (.tuple #[.int .u64 r1, .int .u64 r2]) ∧ qAX w w' := by
 have H := h
 unfold qES.f at H
 clear h
 replace H := zi H
 obtain ⟨t450, A20, H⟩ := H
 have A2 := qA0.mk A20
 clear A20
 simp only [Option.some.injEq, Prod.mk.injEq] at H
 obtain ⟨rfl, rfl⟩ := H
 go_enter Tryz.func83, Tryz.ntmps83
 go_wp2_with (((with_reducible refine qA6 (f := 60) rfl ?_); refine qBP (some 7) Tryz.func60 #[.int .u64 (IntKind.u64.wrap (a0 + 11400714819323198485))] ?_; (with_reducible refine (qEH.calls (IntKind.u64.wrap (a0 + 11400714819323198485)) t450 _ A2.out).mono ?_); rintro e w' ⟨rfl, ⟨nd, rfl⟩⟩; refine ⟨_, rfl, ?_⟩))
 go_ret2
 exact ⟨zs, zD⟩
def bits_Mul64.f (a0 : Int) (a1 : Int) : Option (Int × Int) := some (IntKind.u64.wrap ((IntKind.u64.wrap ((IntKind.u64.wrap ((a0 / 4294967296) * (a1 / 4294967296))) + ((IntKind.u64.wrap ((IntKind.u64.wrap ((a0 / 4294967296) * (Go.bits .and .u64 a1 4294967295))) + ((IntKind.u64.wrap ((Go.bits .and .u64 a0 4294967295) * (Go.bits .and .u64 a1 4294967295))) / 4294967296))) / 4294967296))) + ((IntKind.u64.wrap ((Go.bits .and .u64 (IntKind.u64.wrap ((IntKind.u64.wrap ((a0 / 4294967296) * (Go.bits .and .u64 a1 4294967295))) + ((IntKind.u64.wrap ((Go.bits .and .u64 a0 4294967295) * (Go.bits .and .u64 a1 4294967295))) / 4294967296))) 4294967295) + (IntKind.u64.wrap ((Go.bits .and .u64 a0 4294967295) * (a1 / 4294967296))))) / 4294967296)), IntKind.u64.wrap (a0 * a1))
theorem bits_Mul64.calls (a0 : Int) (a1 : Int) (r1 : Int) (r2 : Int) (w : World) (h : bits_Mul64.f a0 a1 = some (r1, r2)) :
  Calls Tryz.prog 84 #[.int .u64 a0, .int .u64 a1] w fun e w' => e = .returned (.tuple #[.int .u64 r1, .int .u64 r2]) ∧ qAX w w' := by
 have H := h
 unfold bits_Mul64.f at H
 clear h
 simp only [Option.some.injEq, Prod.mk.injEq] at H
 obtain ⟨rfl, rfl⟩ := H
 go_enter Tryz.func84, Tryz.ntmps84
 go_wp2
 go_ret2
 exact ⟨zs, zD⟩
def qDZ.f (a0 : Int) (a1 : Int) : Option (Int × Int) := if a1 < 1 then (some (0, a0)) else ((qES.f a0).bind fun bt451 => ((bits_Mul64.f bt451.1 (IntKind.u64.wrap (a1))).bind fun bt453 => (some (wrap64 (bt453.1), bt451.2))))
theorem qDZ.calls (a0 : Int) (a1 : Int) (r1 : Int) (r2 : Int) (w : World) (h : qDZ.f a0 a1 = some (r1, r2)) :
  Calls Tryz.prog 59 #[.int .u64 a0, .int .i64 a1] w fun e w' => e = .returned (.tuple #[.int .i64 r1, .int .u64 r2]) ∧ qAX w w' := by
 have H := h
 unfold qDZ.f at H
 clear h
 by_cases c3 : a1 < 1
 ·rw [if_pos c3] at H
  have c3b0 := decide_eq_true c3
  clear c3
  simp only [Option.some.injEq, Prod.mk.injEq] at H
  obtain ⟨rfl, rfl⟩ := H
  go_enter Tryz.func59, Tryz.ntmps59
  go_wp2
  go_ret2
  exact ⟨zs, zD⟩
 rw [if_neg c3] at H
 have c3b0 := decide_eq_false c3
 clear c3
 replace H := zi H
 obtain ⟨⟨t451, t452⟩, A40, H⟩ := H
 dsimp only at H
 have A4 := qA0.mk A40
 clear A40
 replace H := zi H
 obtain ⟨⟨t453, t454⟩, A50, H⟩ := H
 replace H : (some (wrap64 (t453), t452)) = some (r1, r2) := H
 have A5 := qA0.mk A50
 clear A50
 simp only [Option.some.injEq, Prod.mk.injEq] at H
 obtain ⟨rfl, rfl⟩ := H
 go_enter Tryz.func59, Tryz.ntmps59
 go_wp2_with (first | ((with_reducible refine qA6 (f := 83) rfl ?_); refine qBP (some 14) Tryz.func83 #[.int .u64 a0] ?_; (with_reducible refine (qES.calls a0 t451 t452 _ A4.out).mono ?_); rintro e w' ⟨rfl, ⟨nd, rfl⟩⟩; refine ⟨_, rfl, ?_⟩) | ((with_reducible refine qA6 (f := 84) rfl ?_); refine qBP (some 21) Tryz.func84 #[.int .u64 t451, .int .u64 (IntKind.u64.wrap (a1))] ?_; (with_reducible refine (bits_Mul64.calls t451 (IntKind.u64.wrap (a1)) t453 t454 _ A5.out).mono ?_); rintro e w' ⟨rfl, ⟨nd, rfl⟩⟩; refine ⟨_, rfl, ?_⟩))
 go_ret2
 exact ⟨zs, zD⟩
mutual
def qCD.l0 : Nat → Int → List Int → Int → List Int → Int → Int → Option (Int × Int × Int)
 | 0, _, _, _, _, _, _ => none
 | k + 1, x0, x1, x8, x19, x20, x21 => if x21 < x20 then (if 0 ≤ x21 then (if x21 < (x19.length : Int) then (qCD.l0 k x0 x1 (wrap64 (x8 + (rd x19 x21))) x19 x20 (wrap64 (x21 + 1))) else (none)) else (none)) else ((qDZ.f x0 x8).bind fun bt457 => (qCD.l1 k bt457.2 bt457.1 x1 (x1.length : Int) 0))
def qCD.l1 : Nat → Int → Int → List Int → Int → Int → Option (Int × Int × Int)
 | 0, _, _, _, _, _ => none
 | k + 1, x0, x11, x35, x36, x37 => if x37 < x36 then (if 0 ≤ x37 then (if x37 < (x35.length : Int) then (if x11 < (rd x35 x37) then (some (x37, x0, 0)) else (qCD.l1 k x0 (wrap64 (x11 - (rd x35 x37))) x35 x36 (wrap64 (x37 + 1)))) else (none)) else (none)) else (some (0, 0, 7))
end
def qCD.f (k : Nat) (a0 : Int) (l1 : List Int) : Option (Int × Int × Int) := (qBT.f k l1).bind fun t455 => (if t455 = 0 then (qCD.l0 k a0 l1 0 l1 (l1.length : Int) 0) else (some (0, 0, t455)))
theorem qCD.calls (k : Nat) (a0 : Int) (A1 : Option Addr) (c1 : Nat) (l1 : List Int) (r1 : Int) (r2 : Int) (r3 : Int) (w : World) (hr1 : Kd.C (Kd.int .i64) w A1 l1.length l1) (hc1 : l1.length ≤ c1) (h : qCD.f k a0 l1 = some (r1, r2, r3)) :
  Calls Tryz.prog 58 #[.int .u64 a0, .slice A1 l1.length c1] w fun e w' => e = .returned (.tuple #[.int .i64 r1, .int .u64 r2, .int .i64 r3]) ∧ qAX w w' := by
 have HR1 := qA0.mk hr1
 have HC1 := qA0.mk hc1
 clear hr1 hc1
 have H := h
 unfold qCD.f at H
 clear h
 replace H := zi H
 obtain ⟨t455, A30, H⟩ := H
 have A3 := qA0.mk A30
 clear A30
 by_cases c4 : t455 = 0
 rotate_left
 ·rw [if_neg c4] at H
  have ⟨c4b0, c4b1⟩ := zn c4
  simp only [Option.some.injEq, Prod.mk.injEq] at H
  obtain ⟨rfl, rfl, rfl⟩ := H
  go_enter Tryz.func58, Tryz.ntmps58
  go_wp2_with (((with_reducible refine qA6 (f := 22) rfl ?_); refine qBP (some 15) Tryz.func22 #[.slice A1 l1.length c1] ?_; (with_reducible refine (qBT.calls k _ _ l1 t455 _ ?side1 ?side2 A3.out).mono ?_); (case side1 => repeat (first | exact HR1.out | refine sC ?_)); (case side2 => exact HC1.out); rintro e w' ⟨rfl, ⟨nd, rfl⟩⟩; refine ⟨_, rfl, ?_⟩))
  go_ret3
  exact ⟨zs, zD⟩
 rw [if_pos c4] at H
 have ⟨c4b0, c4b1⟩ := ze c4
 clear c4
 have H' := qA0.mk H
 clear H
 go_enter Tryz.func58, Tryz.ntmps58
 go_wp2_with (((with_reducible refine qA6 (f := 22) rfl ?_); refine qBP (some 15) Tryz.func22 #[.slice A1 l1.length c1] ?_; (with_reducible refine (qBT.calls k _ _ l1 t455 _ ?side1 ?side2 A3.out).mono ?_); (case side1 => repeat (first | exact HR1.out | refine sC ?_)); (case side2 => exact HC1.out); rintro e w' ⟨rfl, ⟨nd, rfl⟩⟩; refine ⟨_, rfl, ?_⟩))
 go_loopg [8, 21] k (fun kq v8 v21 w' => ∃ (x8_1 : Int) (x21_1 : Int), v8 = .int .i64 x8_1 ∧ v21 = .int .i64 x21_1 ∧ qA0 (qCD.l0 kq a0 l1 x8_1 l1 (l1.length : Int) x21_1 = some (r1, r2, r3)) ∧ qA0 (kq ≤ k) ∧ qAX w w')
 case atStart => exact ⟨(0), (0), zs, zs, H', ⟨Nat.le_refl _⟩, by repeat (first | exact qAX.refl _ | apply qAX.step)⟩
 clear H' c4b0 c4b1
 obtain ⟨x8_1, x21_1, rfl, rfl, HA, HK1, ⟨m1, rfl⟩⟩ := hrel
 obtain _ | k1 := gk
 ·exact absurd HA.out (by simp [qCD.l0])
 have H := HA.out
 clear HA
 simp only [qCD.l0] at H
 by_cases c5 : x21_1 < (l1.length : Int)
 ·rw [if_pos c5] at H
  have c5b0 := decide_eq_true c5
  clear c5
  by_cases c6 : 0 ≤ x21_1
  rotate_left
  ·rw [if_neg c6] at H
   cases H
  rw [if_pos c6] at H
  have c6b0 := decide_eq_true c6
  clear c6
  by_cases c7 : x21_1 < (l1.length : Int)
  rotate_left
  ·rw [if_neg c7] at H
   cases H
  rw [if_pos c7] at H
  have c7b0 := decide_eq_true c7
  clear c7
  have H' := qA0.mk H
  clear H
  have p456 : 0 ≤ (x21_1 : Int) := zd
  have q456 : x21_1 < (l1.length : Int) := zd
  obtain ⟨ad456, e456, hx456_0⟩ := Kd.qC2 HR1.out x21_1 p456 q456
  cases e456
  replace p456 := eq_true p456
  replace q456 := eq_true q456
  go_wp2
  go_roundg k1
  case measure => have := HK1.out; omega
  case rel => exact ⟨(wrap64 (x8_1 + (rd l1 x21_1))), (wrap64 (x21_1 + 1)), zs, zs, H', ⟨by have := HK1.out; omega⟩, by repeat (first | exact qAX.refl _ | apply qAX.step)⟩
 rw [if_neg c5] at H
 have c5b0 := decide_eq_false c5
 clear c5
 replace H := zi H
 obtain ⟨⟨t457, t458⟩, A80, H⟩ := H
 dsimp only at H
 have A8 := qA0.mk A80
 clear A80
 have H' := qA0.mk H
 clear H
 go_wp2_with (((with_reducible refine qA6 (f := 59) rfl ?_); refine qBP (some 32) Tryz.func59 #[.int .u64 a0, .int .i64 x8_1] ?_; (with_reducible refine (qDZ.calls a0 x8_1 t457 t458 _ A8.out).mono ?_); rintro e w' ⟨rfl, ⟨nd, rfl⟩⟩; refine ⟨_, rfl, ?_⟩))
 go_loopg [11, 37] k1 (fun kq v11 v37 w' => ∃ (x11_2 : Int) (x37_2 : Int), v11 = .int .i64 x11_2 ∧ v37 = .int .i64 x37_2 ∧ qA0 (qCD.l1 kq t458 x11_2 l1 (l1.length : Int) x37_2 = some (r1, r2, r3)) ∧ qA0 (kq ≤ k1) ∧ qAX w w')
 case atStart => exact ⟨(t457), (0), zs, zs, H', ⟨Nat.le_refl _⟩, by repeat (first | exact qAX.refl _ | apply qAX.step)⟩
 clear H' c5b0
 obtain ⟨x11_2, x37_2, rfl, rfl, HA, HK2, ⟨m2, rfl⟩⟩ := hrel
 obtain _ | k2 := gk
 ·exact absurd HA.out (by simp [qCD.l1])
 have H := HA.out
 clear HA
 simp only [qCD.l1] at H
 by_cases c9 : x37_2 < (l1.length : Int)
 rotate_left
 ·rw [if_neg c9] at H
  have c9b0 := decide_eq_false c9
  clear c9
  simp only [Option.some.injEq, Prod.mk.injEq] at H
  obtain ⟨rfl, rfl, rfl⟩ := H
  go_wp2
  go_ret3
  exact ⟨zs, zD⟩
 rw [if_pos c9] at H
 have c9b0 := decide_eq_true c9
 clear c9
 by_cases c10 : 0 ≤ x37_2
 rotate_left
 ·rw [if_neg c10] at H
  cases H
 rw [if_pos c10] at H
 have c10b0 := decide_eq_true c10
 clear c10
 by_cases c11 : x37_2 < (l1.length : Int)
 rotate_left
 ·rw [if_neg c11] at H
  cases H
 rw [if_pos c11] at H
 have c11b0 := decide_eq_true c11
 clear c11
 by_cases c12 : x11_2 < (rd l1 x37_2)
 ·rw [if_pos c12] at H
  have c12b0 := decide_eq_true c12
  clear c12
  simp only [Option.some.injEq, Prod.mk.injEq] at H
  obtain ⟨rfl, rfl, rfl⟩ := H
  have p459 : 0 ≤ (x37_2 : Int) := zd
  have q459 : x37_2 < (l1.length : Int) := zd
  obtain ⟨ad459, e459, hx459_0⟩ := Kd.qC2 HR1.out x37_2 p459 q459
  cases e459
  replace p459 := eq_true p459
  replace q459 := eq_true q459
  go_wp2
  go_ret3
  exact ⟨zs, zD⟩
 rw [if_neg c12] at H
 have c12b0 := decide_eq_false c12
 clear c12
 have H' := qA0.mk H
 clear H
 have p459 : 0 ≤ (x37_2 : Int) := zd
 have q459 : x37_2 < (l1.length : Int) := zd
 obtain ⟨ad459, e459, hx459_0⟩ := Kd.qC2 HR1.out x37_2 p459 q459
 cases e459
 replace p459 := eq_true p459
 replace q459 := eq_true q459
 go_wp2
 go_roundg k2
 case measure => have := HK1.out; have := HK2.out; omega
 case rel => exact ⟨(wrap64 (x11_2 - (rd l1 x37_2))), (wrap64 (x37_2 + 1)), zs, zs, H', ⟨by have := HK1.out; have := HK2.out; omega⟩, by repeat (first | exact qAX.refl _ | apply qAX.step)⟩
mutual
def qC0.l0 : Nat → List (S76) → Int → Int → Int → Int → List Int → List (S56) → Int → Int → List (S83) → List (S86) → Option (Int × (List (S83)) × (List (S86)))
 | 0, _, _, _, _, _, _, _, _, _, _, _ => none
 | k + 1, x0, x2, x29, x30, x461000, x461001, x461002, x461003, x463000, x463001, x463002 => if x30 < x29 then (if x463001.length < 8796093022208 then (qC0.l1 k x0 x2 x30 x29 x30 x461002 (x461002.length : Int) 0 x461000 x461001 x461002 x461003 x463000 (x463001 ++ [(⟨x30, 0⟩ : S83)]) x463002) else (none)) else (some (x463000, x463001, x463002))
def qC0.l1 : Nat → List (S76) → Int → Int → Int → Int → List (S56) → Int → Int → Int → List Int → List (S56) → Int → Int → List (S83) → List (S86) → Option (Int × (List (S83)) × (List (S86)))
 | 0, _, _, _, _, _, _, _, _, _, _, _, _, _, _, _ => none
 | k + 1, x0, x2, x10, x29, x30, x41, x42, x43, x461000, x461001, x461002, x461003, x463000, x463001, x463002 => if x43 < x42 then (if 0 ≤ x43 then (if x43 < (x41.length : Int) then ((qDZ.f x2 1000000).bind fun bt471 => ((qCD.f k bt471.2 ((qAH x41 x43).f2)).bind fun bt473 => (if bt471.1 < x461003 then (qC0.l1 k x0 bt473.2.1 x10 x29 x30 x41 x42 (wrap64 (x43 + 1)) x461000 x461001 x461002 x461003 x463000 x463001 x463002) else ((qAR.f k x0 ((qAH x41 x43).f0)).bind fun bt476 => (if 0 ≤ bt473.1 then (if bt473.1 < (((qAH x41 x43).f1).length : Int) then (if x463002.length < 3518437208883 then (qC0.l1 k x0 bt473.2.1 x10 x29 x30 x41 x42 (wrap64 (x43 + 1)) x461000 x461001 x461002 x461003 x463000 x463001 (x463002 ++ [(⟨x10, (qAH x41 x43).f0, (⟨bt476.2.1, rd ((qAH x41 x43).f1) bt473.1⟩ : S58)⟩ : S86)])) else (none)) else (none)) else (none)))))) else (none)) else (none)) else (qC0.l0 k x0 x2 x29 (wrap64 (x30 + 1)) x461000 x461001 x461002 x461003 x463000 x463001 x463002)
end
def qC0.f (k : Nat) (l0 : List (S76)) (a1_0 : Int) (l1_1 : List Int) (l1_2 : List (S56)) (a1_3 : Int) (a2 : Int) : Option (Int × (List (S83)) × (List (S86))) := (qCD.f k a2 l1_1).bind fun bt463 => (qC0.l0 k l0 bt463.2.1 (wrap64 (bt463.1 + 1)) 0 a1_0 l1_1 l1_2 a1_3 a1_0 ([] : List (S83)) ([] : List (S86)))
def qC0.T15 : Bool × List (List Nat × List Nat) := (true, [([], []), ([0], [0]), ([], []), ([], []), ([3], [3]), ([], []), ([5], [5]), ([], []), ([7], [7]), ([], []), ([8, 9], [8, 9]), ([10], [10]), ([6, 11], [6, 11]), ([2, 4, 12], [2, 4, 12]), ([13], [13]), ([1, 14], [1, 14]), ([0, 1, 2, 3, 4, 5, 6, 7, 8, 9, 10, 11, 12, 13, 14, 15], []), ([16, 15, 15, 0, 1, 2, 3, 4, 5, 6, 7, 8, 9, 10, 11, 12, 13, 14, 15], [15, 16])])
def qC0.B15 : List Nat := [0, 1, 0, 0, 8, 0, 32, 0, 128, 0, 896, 1920, 4064, 8188, 16380, 32767, 65535, 131071]
theorem qC0.tab15 : rtab .any (opsOf Tryz.f28 15) = qC0.T15 := by kernel_rfl
theorem qC0.bits15 : qDW qC0.T15.2 qC0.B15 = true := by kernel_rfl
theorem qC0.calls (k : Nat) (A0 : Option Addr) (c0 : Nat) (l0 : List (S76)) (a1_0 : Int) (A1_1 : Option Addr) (c1_1 : Nat) (l1_1 : List Int) (A1_2 : Option Addr) (c1_2 : Nat) (l1_2 : List (S56)) (a1_3 : Int) (a2 : Int) (r1 : Int) (r2 : List (S83)) (r3 : List (S86)) (w : World) (hr0 : Kd.C k76 w A0 l0.length l0) (hc0 : l0.length ≤ c0) (hr1_1 : Kd.C (Kd.int .i64) w A1_1 l1_1.length l1_1) (hc1_1 : l1_1.length ≤ c1_1) (hr1_2 : Kd.C k56 w A1_2 l1_2.length l1_2) (hc1_2 : l1_2.length ≤ c1_2) (h : qC0.f k l0 a1_0 l1_1 l1_2 a1_3 a2 = some (r1, r2, r3)) :
  Calls Tryz.prog 28 #[.slice A0 l0.length c0, .agg #[.int .i64 a1_0, .slice A1_1 l1_1.length c1_1, .slice A1_2 l1_2.length c1_2, .int .i64 a1_3], .int .u64 a2] w fun e w' => ∃ v1_ v2_ : Value, e = .returned (.agg #[.int .i64 r1, v1_, v2_]) ∧ Kd.R k83 83 w' w.heap.size (fun _ => True) v1_ r2 ∧ Kd.R k86 86 w' w.heap.size (fun _ => True) v2_ r3 ∧ Below w.heap.size w w' := by
 have hu27 := Tryz.underlying27
 have hu35 := Tryz.underlying35
 have hu83 := Tryz.underlying83
 have hu56 := Tryz.underlying56
 have hu60 := Tryz.underlying60
 have hu58 := Tryz.underlying58
 have hu86 := Tryz.underlying86
 have HR0 := qA0.mk hr0
 have HC0 := qA0.mk hc0
 clear hr0 hc0
 have HR1_1 := qA0.mk hr1_1
 have HC1_1 := qA0.mk hc1_1
 clear hr1_1 hc1_1
 have HR1_2 := qA0.mk hr1_2
 have HC1_2 := qA0.mk hc1_2
 clear hr1_2 hc1_2
 have HB := qA0.mk (Below.refl w.heap.size w)
 have H := h
 unfold qC0.f at H
 clear h
 replace H := zi H
 obtain ⟨⟨t463, t464, t465⟩, A40, H⟩ := H
 dsimp only at H
 have A4 := qA0.mk A40
 clear A40
 have H' := qA0.mk H
 clear H
 go_enter Tryz.func28, Tryz.ntmps28
 go_wp2_with (first | ((with_reducible refine qA9 (N := 4) rfl ?_); refine boxZ 4 #[.int .i64 a1_0, .slice A1_1 l1_1.length c1_1, .slice A1_2 l1_2.length c1_2, .int .i64 a1_3] 27 ?_; intro gb460 hg w5 hbox hb; have BK460 := qA0.mk (hbox); have GW460 := zg w gb460; have GE460 := zg w gb460; replace HB := zB hb; clear hb hbox hg) | ((with_reducible refine qA9 (N := 6) rfl ?_); refine boxZ 6 #[.int .i64 0, .slice none 0 0, .slice none 0 0] 35 ?_; intro gb461 hg w6 hbox hb; have BK461 := qA0.mk (hbox); have GW461 := zg w gb461; have GE461 := zg w gb461; have NB460_461 := zl BK460 gb461; have NB461_460 := zu BK460 gb461; replace BK460 := zK BK460 hb; replace HB := zB hb; clear hb hbox hg; have hnb7 := NB460_461.out; have hnc7 := NB461_460.out; obtain ⟨hcz8_0, hcz8_1, hcz8_2, hcz8_3, hfz8_0, hfz8_1, hfz8_2, hfz8_3⟩ := bc4 BK460.out) | ((with_reducible refine qA9 (N := 7) rfl ?_); refine boxZ 7 #[.int .i64 0, .slice none 0 0, .slice none 0 0] 35 ?_; intro gb462 hg w9 hbox hb; have BK462 := qA0.mk (hbox); have GW462 := zg w gb462; have GE462 := zg w gb462; have NB460_462 := zl BK460 gb462; have NB462_460 := zu BK460 gb462; have NB461_462 := zl BK461 gb462; have NB462_461 := zu BK461 gb462; replace BK460 := zK BK460 hb; replace BK461 := zK BK461 hb; replace HB := zB hb; clear hb hbox hg; have hnb10 := NB462_460.out; have hnc10 := NB460_462.out; have hnb11 := NB462_461.out; have hnc11 := NB461_462.out; obtain ⟨hcz12_0, hcz12_1, hcz12_2, hfz12_0, hfz12_1, hfz12_2⟩ := bc3 BK462.out; obtain ⟨hcz13_0, hcz13_1, hcz13_2, hcz13_3, hfz13_0, hfz13_1, hfz13_2, hfz13_3⟩ := bc4 BK460.out) | ((with_reducible refine qA6 (f := 58) rfl ?_); refine qBP (some 24) Tryz.func58 #[.int .u64 a2, .slice A1_1 l1_1.length c1_1] ?_; (with_reducible refine (qCD.calls k a2 _ _ l1_1 t463 t464 t465 _ ?side1 ?side2 A4.out).mono ?_); (case side1 => exact Kd.qAE HR1_1.out zb); (case side2 => exact HC1_1.out); rintro e w' ⟨rfl, ⟨nd, rfl⟩⟩; refine ⟨_, rfl, ?_⟩))
 go_loopg [2, 30] k (fun kq v2 v30 w' => ∃ (x2_1 : Int) (x30_1 : Int) (x463001_1 : List (S83)) (x463002_1 : List (S86)) (u463001 : Value) (u463002 : Value), v2 = .int .u64 x2_1 ∧ v30 = .int .i64 x30_1 ∧ qA0 (qC0.l0 kq l0 x2_1 (wrap64 (t463 + 1)) x30_1 a1_0 l1_1 l1_2 a1_3 a1_0 x463001_1 x463002_1 = some (r1, r2, r3)) ∧ qA0 (kq ≤ k) ∧ qA0 (Kd.R k83 83 w' w.heap.size (fun _ => True) u463001 x463001_1) ∧ qA0 (Kd.R k86 86 w' w.heap.size (fun _ => True) u463002 x463002_1) ∧ qA0 (w'.heap[gb460]? = some (.cells #[.int .i64 a1_0, (.slice A1_1 l1_1.length c1_1), (.slice A1_2 l1_2.length c1_2), .int .i64 a1_3] 27 (0, 0))) ∧ qA0 (w'.heap[gb461]? = some (.cells #[.int .i64 0, (.slice none 0 0), (.slice none 0 0)] 35 (0, 0))) ∧ qA0 (w'.heap[gb462]? = some (.cells #[.int .i64 a1_0, u463001, u463002] 35 (0, 0))) ∧ qA0 (Below w.heap.size w w'))
 case atStart => exact ⟨(t464), (0), (([] : List (S83))), (([] : List (S86))), (.slice none 0 0), (.slice none 0 0), zs, zs, H', ⟨Nat.le_refl _⟩, ⟨by first | exact Kd.qEM _ _ _ _ _ | exact Kd.N_nil _ _ _ _ _ | exact Kd.qF4 _ _ _ _ _ | exact Kd.Q_nil _ _ _ _ _ | exact Kd.qFB _ _ _ _ _⟩, ⟨by first | exact Kd.qEM _ _ _ _ _ | exact Kd.N_nil _ _ _ _ _ | exact Kd.qF4 _ _ _ _ _ | exact Kd.Q_nil _ _ _ _ _ | exact Kd.qFB _ _ _ _ _⟩, ⟨by refine zf3 ?_ NB460_462; (with_reducible repeat refine st ?_); exact BK460.out⟩, ⟨by refine zf3 ?_ NB461_462; (with_reducible repeat refine st ?_); exact BK461.out⟩, ⟨zp3 BK462⟩, ⟨zb⟩⟩
 clear H' hcz12_0 hcz12_1 hcz12_2 hcz13_0 hcz13_1 hcz13_2 hcz13_3 hcz8_0 hcz8_1 hcz8_2 hcz8_3 hfz12_0 hfz12_1 hfz12_2 hfz13_0 hfz13_1 hfz13_2 hfz13_3 hfz8_0 hfz8_1 hfz8_2 hfz8_3
 obtain ⟨x2_1, x30_1, x463001_1, x463002_1, u463001, u463002, rfl, rfl, HA, HK1, HO_463001, HO_463002, BK460, BK461, BK462, HB⟩ := hrel
 obtain _ | k1 := gk
 ·exact absurd HA.out (by simp [qC0.l0])
 have H := HA.out
 clear HA
 simp only [qC0.l0] at H
 by_cases c14 : x30_1 < (wrap64 (t463 + 1))
 rotate_left
 ·rw [if_neg c14] at H
  have c14b0 := decide_eq_false c14
  clear c14
  simp only [Option.some.injEq, Prod.mk.injEq] at H
  obtain ⟨rfl, rfl, rfl⟩ := H
  have hnb62 := NB462_460.out
  have hnc62 := NB460_462.out
  have hnb63 := NB462_461.out
  have hnc63 := NB461_462.out
  obtain ⟨hcz64_0, hcz64_1, hcz64_2, hfz64_0, hfz64_1, hfz64_2⟩ := bc3 BK462.out
  have hnb65 := NB461_460.out
  have hnc65 := NB460_461.out
  obtain ⟨hcz66_0, hcz66_1, hcz66_2, hfz66_0, hfz66_1, hfz66_2⟩ := bc3 BK461.out
  obtain ⟨Ao67, co67, eo67⟩ := Kd.qBV HO_463001.out
  subst eo67
  obtain ⟨Ao68, co68, eo68⟩ := Kd.qBV HO_463002.out
  subst eo68
  go_wp2
  refine bodyPost_ret (results_cell_row rfl _ _ gb461 35 #[.int .i64 a1_0, .slice Ao67 x463001_1.length co67, .slice Ao68 x463002_1.length co68] (0, 0) _ rfl (zp3 BK461) Tryz.underlying35 rfl (by kernel_rfl)) rfl ?_
  exact ⟨_, _, zf, by (with_reducible repeat refine sR ?_); exact Kd.qB7 (Kd.qAW (Kd.qAW (Kd.qAW (Kd.qBG HO_463001.out BK461.out (by decide)) (fun _ hk => hk.2) _) (fun _ hk => hk.2) _) (fun _ hk => hk.2) _) (fun _ hk => trivial), by (with_reducible repeat refine sR ?_); exact Kd.qB7 (Kd.qAW (Kd.qAW (Kd.qAW (Kd.qBG HO_463002.out BK461.out (by decide)) (fun _ hk => hk.2) _) (fun _ hk => hk.2) _) (fun _ hk => hk.2) _) (fun _ hk => trivial), zb⟩
 rw [if_pos c14] at H
 have c14b0 := decide_eq_true c14
 clear c14
 by_cases c15 : x463001_1.length < 8796093022208
 rotate_left
 ·rw [if_neg c15] at H
  cases H
 rw [if_pos c15] at H
 have LMc15 := qA0.mk c15
 clear c15
 obtain ⟨y466, hy_⟩ : ∃ y_ : List (S83), y_ = (x463001_1 ++ [(⟨x30_1, 0⟩ : S83)]) := ⟨_, rfl⟩
 replace H : (qC0.l1 k1 l0 x2_1 x30_1 (wrap64 (t463 + 1)) x30_1 l1_2 (l1_2.length : Int) 0 a1_0 l1_1 l1_2 a1_3 a1_0 y466 x463002_1) = some (r1, r2, r3) := zr
 have Ny466 := qA0.mk hy_
 clear hy_
 have H' := qA0.mk H
 clear H
 have hnb16 := NB462_460.out
 have hnc16 := NB460_462.out
 have hnb17 := NB462_461.out
 have hnc17 := NB461_462.out
 obtain ⟨hcz18_0, hcz18_1, hcz18_2, hfz18_0, hfz18_1, hfz18_2⟩ := bc3 BK462.out
 go_wp2_with (((with_reducible refine qDS (b := .append) (xs := #[.tmp 34, .tmp 37]) rfl ?_); at_builtin; refine Kd.qFF k83 (w0 := w) w.heap.size rfl (.tmp 34) (.tmp 37) 32 83 (.agg #[(.int .i64 0), (.int .i64 0)]) 16 rfl Tryz.underlying32 info83 rfl (by decide) (by omega) u463001 x463001_1 (⟨x30_1, 0⟩ : S83) [.int .i64 x30_1, .int .i64 0] (fun _ => True) (fun _ => False) rfl rfl ?aP (fun _ hk => hk.elim) ?aF ?aO ?aB ?aS ?aL ?_; (case aP => exact k83_mkM _ _ _ (⟨x30_1, 0⟩ : S83)); (case aB => exact zb); (case aF => exact (fun _ _ => trivial)); (case aO => exact (by (with_reducible repeat refine sR ?_); exact HO_463001.out)); (case aS => exact (qAI zb)); (case aL => have := LMc15.out; omega); intro v467 w19 ho hb hg hat; rw [← Ny466.out] at ho; have HO468 := qA0.mk (ho); replace HO_463002 := qA0.mk (Kd.R_over' (by (with_reducible repeat refine sR ?_); exact HO_463002.out) (Kd.qFE (by (with_reducible repeat refine sR ?_); exact HO_463001.out)) (by decide) hg); replace BK460 := qA0.mk (qAO (g := gb460) (o := .cells #[.int .i64 a1_0, .slice A1_1 l1_1.length c1_1, .slice A1_2 l1_2.length c1_2, .int .i64 a1_3] 27 (0, 0)) (zk BK460) hg (Kd.R_ne HO_463001.out BK460.out (by decide))); replace BK461 := qA0.mk (qAO (g := gb461) (o := .cells #[.int .i64 0, .slice none 0 0, .slice none 0 0] 35 (0, 0)) (zk BK461) hg (Kd.R_ne HO_463001.out BK461.out (by decide))); replace BK462 := qA0.mk (qAO (g := gb462) (o := .cells #[.int .i64 a1_0, u463001, u463002] 35 (0, 0)) (zk BK462) hg (Kd.R_ne HO_463001.out BK462.out (by decide))); replace HB := qA0.mk (hb); clear HO_463001; clear ho hb hg hat; obtain ⟨Ao20, co20, eo20⟩ := Kd.qBV HO468.out; subst eo20; obtain ⟨hcz21_0, hcz21_1, hcz21_2, hfz21_0, hfz21_1, hfz21_2⟩ := bc3 BK462.out; have hnb22 := NB460_461.out; have hnc22 := NB461_460.out; obtain ⟨hcz23_0, hcz23_1, hcz23_2, hcz23_3, hfz23_0, hfz23_1, hfz23_2, hfz23_3⟩ := bc4 BK460.out))
 go_loopg [2, 43] k1 (fun kq v2 v43 w' => ∃ (x2_2 : Int) (x43_2 : Int) (x463002_2 : List (S86)) (u463002 : Value), v2 = .int .u64 x2_2 ∧ v43 = .int .i64 x43_2 ∧ qA0 (qC0.l1 kq l0 x2_2 x30_1 (wrap64 (t463 + 1)) x30_1 l1_2 (l1_2.length : Int) x43_2 a1_0 l1_1 l1_2 a1_3 a1_0 y466 x463002_2 = some (r1, r2, r3)) ∧ qA0 (kq ≤ k1) ∧ qA0 (Kd.R k83 83 w' w.heap.size (fun _ => True) (.slice Ao20 y466.length co20) y466) ∧ qA0 (Kd.R k86 86 w' w.heap.size (fun _ => True) u463002 x463002_2) ∧ qA0 (w'.heap[gb460]? = some (.cells #[.int .i64 a1_0, (.slice A1_1 l1_1.length c1_1), (.slice A1_2 l1_2.length c1_2), .int .i64 a1_3] 27 (0, 0))) ∧ qA0 (w'.heap[gb461]? = some (.cells #[.int .i64 0, (.slice none 0 0), (.slice none 0 0)] 35 (0, 0))) ∧ qA0 (w'.heap[gb462]? = some (.cells #[.int .i64 a1_0, (.slice Ao20 y466.length co20), u463002] 35 (0, 0))) ∧ qA0 (Below w.heap.size w w'))
 case atStart => exact ⟨(x2_1), (0), (x463002_1), (u463002), zs, zs, H', ⟨Nat.le_refl _⟩, ⟨by (with_reducible repeat refine sR ?_); exact Kd.qB7 (Kd.qAW (Kd.qBG HO468.out BK462.out (by decide)) (fun _ hk => hk.2) _) (fun _ hk => trivial)⟩, ⟨by (with_reducible repeat refine sR ?_); exact Kd.qB7 (Kd.qAW (Kd.qBG HO_463002.out BK462.out (by decide)) (fun _ hk => hk.2) _) (fun _ hk => trivial)⟩, ⟨by refine zf_ ?_ NB460_462; (with_reducible repeat refine st ?_); exact BK460.out⟩, ⟨by refine zf_ ?_ NB461_462; (with_reducible repeat refine st ?_); exact BK461.out⟩, ⟨by refine zp_ (cs := #[.int .i64 a1_0, u463001, u463002]) ?_ 1; (with_reducible repeat refine st ?_); exact BK462.out⟩, ⟨zb⟩⟩
 clear H' c14b0 hcz18_0 hcz18_1 hcz18_2 hcz21_0 hcz21_1 hcz21_2 hcz23_0 hcz23_1 hcz23_2 hcz23_3 hfz18_0 hfz18_1 hfz18_2 hfz21_0 hfz21_1 hfz21_2 hfz23_0 hfz23_1 hfz23_2 hfz23_3
 obtain ⟨x2_2, x43_2, x463002_2, u463002, rfl, rfl, HA, HK2, HO_463001, HO_463002, BK460, BK461, BK462, HB⟩ := hrel
 obtain _ | k2 := gk
 ·exact absurd HA.out (by simp [qC0.l1])
 have H := HA.out
 clear HA
 simp only [qC0.l1] at H
 by_cases c24 : x43_2 < (l1_2.length : Int)
 rotate_left
 ·rw [if_neg c24] at H
  have c24b0 := decide_eq_false c24
  clear c24
  have H' := qA0.mk H
  clear H
  go_wp2
  go_roundg k2
  case measure => have := HK1.out; have := HK2.out; omega
  case rel => exact ⟨(x2_2), (wrap64 (x30_1 + 1)), (y466), (x463002_2), (.slice Ao20 y466.length co20), (u463002), zs, zs, H', ⟨by have := HK1.out; have := HK2.out; omega⟩, zR HO_463001, zR HO_463002, ⟨zk BK460⟩, ⟨zk BK461⟩, ⟨zk BK462⟩, ⟨zb⟩⟩
 rw [if_pos c24] at H
 have c24b0 := decide_eq_true c24
 clear c24
 by_cases c25 : 0 ≤ x43_2
 rotate_left
 ·rw [if_neg c25] at H
  cases H
 rw [if_pos c25] at H
 have c25b0 := decide_eq_true c25
 clear c25
 by_cases c26 : x43_2 < (l1_2.length : Int)
 rotate_left
 ·rw [if_neg c26] at H
  cases H
 rw [if_pos c26] at H
 have c26b0 := decide_eq_true c26
 clear c26
 replace H := zi H
 obtain ⟨⟨t471, t472⟩, A270, H⟩ := H
 dsimp only at H
 have A27 := qA0.mk A270
 clear A270
 replace H := zi H
 obtain ⟨⟨t473, t474, t475⟩, A280, H⟩ := H
 dsimp only at H
 have A28 := qA0.mk A280
 clear A280
 by_cases c29 : t471 < a1_3
 ·rw [if_pos c29] at H
  have c29b0 := decide_eq_true c29
  clear c29
  have H' := qA0.mk H
  clear H
  have p469 : 0 ≤ (x43_2 : Int) := zd
  have q469 : x43_2 < (l1_2.length : Int) := zd
  obtain ⟨ad469, A469_1, c469_1, A469_2, c469_2, e469, hx469_0, hx469_1, hx469_2, hl469_1, hi469_1, hl469_2, hi469_2⟩ := at_T56 HR1_2.out x43_2 p469 q469
  cases e469
  (try replace hx469_0 := zh hx469_0)
  replace hx469_1 := zh hx469_1
  replace hx469_2 := zh hx469_2
  have HR469_1 := qA0.mk hi469_1
  have HC469_1 := qA0.mk hl469_1
  clear hi469_1 hl469_1
  have HR469_2 := qA0.mk hi469_2
  have HC469_2 := qA0.mk hl469_2
  clear hi469_2 hl469_2
  replace p469 := eq_true p469
  replace q469 := eq_true q469
  go_wp2_with (first | ((with_reducible refine qA9 (N := 12) rfl ?_); refine boxZ 12 #[.string (⟨#[]⟩ : ByteArray), .slice none 0 0, .slice none 0 0] 56 ?_; intro gb470 hg w30 hbox hb; have BK470 := qA0.mk (hbox); have GW470 := zg w gb470; have GE470 := zg w gb470; have NB460_470 := zl BK460 gb470; have NB470_460 := zu BK460 gb470; have NB461_470 := zl BK461 gb470; have NB470_461 := zu BK461 gb470; have NB462_470 := zl BK462 gb470; have NB470_462 := zu BK462 gb470; replace HO_463001 := qA0.mk (Kd.qBN (by (with_reducible repeat refine sR ?_); exact HO_463001.out) hb); replace HO_463002 := qA0.mk (Kd.qBN (by (with_reducible repeat refine sR ?_); exact HO_463002.out) hb); replace BK460 := zK BK460 hb; replace BK461 := zK BK461 hb; replace BK462 := zK BK462 hb; replace HB := zB hb; clear hb hbox hg; have hnb31 := NB470_460.out; have hnc31 := NB460_470.out; have hnb32 := NB470_461.out; have hnc32 := NB461_470.out; have hnb33 := NB470_462.out; have hnc33 := NB462_470.out; obtain ⟨hcz34_0, hcz34_1, hcz34_2, hfz34_0, hfz34_1, hfz34_2⟩ := bc3 BK470.out) | ((with_reducible refine qA6 (f := 59) rfl ?_); refine qBP (some 49) Tryz.func59 #[.int .u64 x2_2, .int .i64 1000000] ?_; (with_reducible refine (qDZ.calls x2_2 1000000 t471 t472 _ A27.out).mono ?_); rintro e w' ⟨rfl, ⟨nd, rfl⟩⟩; refine ⟨_, rfl, ?_⟩) | ((with_reducible refine qA6 (f := 58) rfl ?_); refine qBP (some 56) Tryz.func58 #[.int .u64 t472, .slice A469_2 ((qAH l1_2 x43_2).f2).length c469_2] ?_; (with_reducible refine (qCD.calls k2 t472 _ _ ((qAH l1_2 x43_2).f2) t473 t474 t475 _ ?side1 ?side2 A28.out).mono ?_); (case side1 => exact Kd.qAE HR469_2.out zb); (case side2 => exact HC469_2.out); rintro e w' ⟨rfl, ⟨nd, rfl⟩⟩; refine ⟨_, rfl, ?_⟩; have hnb35 := NB460_461.out; have hnc35 := NB461_460.out; have hnb36 := NB460_462.out; have hnc36 := NB462_460.out; obtain ⟨hcz37_0, hcz37_1, hcz37_2, hcz37_3, hfz37_0, hfz37_1, hfz37_2, hfz37_3⟩ := bc4 BK460.out))
  go_roundg k2
  case measure => have := HK1.out; have := HK2.out; omega
  case rel => exact ⟨(t474), (wrap64 (x43_2 + 1)), (x463002_2), (u463002), zs, zs, H', ⟨by have := HK1.out; have := HK2.out; omega⟩, ⟨by (with_reducible repeat refine sR ?_); exact Kd.qB7 (Kd.qAW (Kd.qAW (Kd.qAW (Kd.qBG HO_463001.out BK470.out (by decide)) (fun _ hk => hk.2) _) (fun _ hk => hk.2) _) (fun _ hk => hk.2) _) (fun _ hk => trivial)⟩, ⟨by (with_reducible repeat refine sR ?_); exact Kd.qB7 (Kd.qAW (Kd.qAW (Kd.qAW (Kd.qBG HO_463002.out BK470.out (by decide)) (fun _ hk => hk.2) _) (fun _ hk => hk.2) _) (fun _ hk => hk.2) _) (fun _ hk => trivial)⟩, ⟨by refine zf3 ?_ NB460_470; (with_reducible repeat refine st ?_); exact BK460.out⟩, ⟨by refine zf3 ?_ NB461_470; (with_reducible repeat refine st ?_); exact BK461.out⟩, ⟨by refine zf3 ?_ NB462_470; (with_reducible repeat refine st ?_); exact BK462.out⟩, ⟨zb⟩⟩
 rw [if_neg c29] at H
 have c29b0 := decide_eq_false c29
 clear c29
 replace H := zi H
 obtain ⟨⟨t476, t477, t478, t479, t480, t481, t482, t483⟩, A380, H⟩ := H
 dsimp only at H
 have A38 := qA0.mk A380
 clear A380
 by_cases c39 : 0 ≤ t473
 rotate_left
 ·rw [if_neg c39] at H
  cases H
 rw [if_pos c39] at H
 have c39b0 := decide_eq_true c39
 clear c39
 by_cases c40 : t473 < (((qAH l1_2 x43_2).f1).length : Int)
 rotate_left
 ·rw [if_neg c40] at H
  cases H
 rw [if_pos c40] at H
 have c40b0 := decide_eq_true c40
 clear c40
 by_cases c41 : x463002_2.length < 3518437208883
 rotate_left
 ·rw [if_neg c41] at H
  cases H
 rw [if_pos c41] at H
 have LMc41 := qA0.mk c41
 clear c41
 obtain ⟨y486, hy_⟩ : ∃ y_ : List (S86), y_ = (x463002_2 ++ [(⟨x30_1, (qAH l1_2 x43_2).f0, (⟨t477, rd ((qAH l1_2 x43_2).f1) t473⟩ : S58)⟩ : S86)]) := ⟨_, rfl⟩
 replace H : (qC0.l1 k2 l0 t474 x30_1 (wrap64 (t463 + 1)) x30_1 l1_2 (l1_2.length : Int) (wrap64 (x43_2 + 1)) a1_0 l1_1 l1_2 a1_3 a1_0 y466 y486) = some (r1, r2, r3) := zr
 have Ny486 := qA0.mk hy_
 clear hy_
 have H' := qA0.mk H
 clear H
 have p469 : 0 ≤ (x43_2 : Int) := zd
 have q469 : x43_2 < (l1_2.length : Int) := zd
 obtain ⟨ad469, A469_1, c469_1, A469_2, c469_2, e469, hx469_0, hx469_1, hx469_2, hl469_1, hi469_1, hl469_2, hi469_2⟩ := at_T56 HR1_2.out x43_2 p469 q469
 cases e469
 (try replace hx469_0 := zh hx469_0)
 replace hx469_1 := zh hx469_1
 replace hx469_2 := zh hx469_2
 have HR469_1 := qA0.mk hi469_1
 have HC469_1 := qA0.mk hl469_1
 clear hi469_1 hl469_1
 have HR469_2 := qA0.mk hi469_2
 have HC469_2 := qA0.mk hl469_2
 clear hi469_2 hl469_2
 replace p469 := eq_true p469
 replace q469 := eq_true q469
 try go_wp2_with (first | ((with_reducible refine qA9 (N := 12) rfl ?_); refine boxZ 12 #[.string (⟨#[]⟩ : ByteArray), .slice none 0 0, .slice none 0 0] 56 ?_; intro gb470 hg w42 hbox hb; have BK470 := qA0.mk (hbox); have GW470 := zg w gb470; have GE470 := zg w gb470; have NB460_470 := zl BK460 gb470; have NB470_460 := zu BK460 gb470; have NB461_470 := zl BK461 gb470; have NB470_461 := zu BK461 gb470; have NB462_470 := zl BK462 gb470; have NB470_462 := zu BK462 gb470; replace HO_463001 := qA0.mk (Kd.qBN (by (with_reducible repeat refine sR ?_); exact HO_463001.out) hb); replace HO_463002 := qA0.mk (Kd.qBN (by (with_reducible repeat refine sR ?_); exact HO_463002.out) hb); replace BK460 := zK BK460 hb; replace BK461 := zK BK461 hb; replace BK462 := zK BK462 hb; replace HB := zB hb; clear hb hbox hg; have hnb43 := NB470_460.out; have hnc43 := NB460_470.out; have hnb44 := NB470_461.out; have hnc44 := NB461_470.out; have hnb45 := NB470_462.out; have hnc45 := NB462_470.out; obtain ⟨hcz46_0, hcz46_1, hcz46_2, hfz46_0, hfz46_1, hfz46_2⟩ := bc3 BK470.out) | ((with_reducible refine qA6 (f := 59) rfl ?_); refine qBP (some 49) Tryz.func59 #[.int .u64 x2_2, .int .i64 1000000] ?_; (with_reducible refine (qDZ.calls x2_2 1000000 t471 t472 _ A27.out).mono ?_); rintro e w' ⟨rfl, ⟨nd, rfl⟩⟩; refine ⟨_, rfl, ?_⟩) | ((with_reducible refine qA6 (f := 58) rfl ?_); refine qBP (some 56) Tryz.func58 #[.int .u64 t472, .slice A469_2 ((qAH l1_2 x43_2).f2).length c469_2] ?_; (with_reducible refine (qCD.calls k2 t472 _ _ ((qAH l1_2 x43_2).f2) t473 t474 t475 _ ?side1 ?side2 A28.out).mono ?_); (case side1 => exact Kd.qAE HR469_2.out zb); (case side2 => exact HC469_2.out); rintro e w' ⟨rfl, ⟨nd, rfl⟩⟩; refine ⟨_, rfl, ?_⟩; have hnb47 := NB460_461.out; have hnc47 := NB461_460.out; have hnb48 := NB460_462.out; have hnc48 := NB462_460.out; obtain ⟨hcz49_0, hcz49_1, hcz49_2, hcz49_3, hfz49_0, hfz49_1, hfz49_2, hfz49_3⟩ := bc4 BK460.out) | ((with_reducible refine qA6 (f := 23) rfl ?_); refine qBP (some 68) Tryz.func23 #[.slice A0 l0.length c0, .string ((qAH l1_2 x43_2).f0)] ?_; (with_reducible refine (qAR.calls k2 _ _ l0 ((qAH l1_2 x43_2).f0) t476 t477 t478 t479 t480 t481 t482 t483 _ ?side1 ?side2 A38.out).mono ?_); (case side1 => exact Kd.qAE HR0.out zb); (case side2 => exact HC0.out); rintro e w50 ⟨rfl, hb⟩; refine ⟨_, rfl, ?_⟩; replace HO_463001 := qA0.mk (Kd.qBN (by (with_reducible repeat refine sR ?_); exact (zRf3 (Kd.qBG HO_463001.out BK470.out (by decide)))) hb); replace HO_463002 := qA0.mk (Kd.qBN (by (with_reducible repeat refine sR ?_); exact (zRf3 (Kd.qBG HO_463002.out BK470.out (by decide)))) hb); replace BK460 := qA0.mk (qAL (g := gb460) (o := .cells #[.int .i64 a1_0, .slice A1_1 l1_1.length c1_1, .slice (some ad469) l1_2.length c1_2, .int .i64 a1_3] 27 (0, 0)) (by refine zf3 ?_ NB460_470; (with_reducible repeat refine st ?_); exact BK460.out) hb); replace BK461 := qA0.mk (qAL (g := gb461) (o := .cells #[.int .i64 0, .slice none 0 0, .slice none 0 0] 35 (0, 0)) (by refine zf3 ?_ NB461_470; (with_reducible repeat refine st ?_); exact BK461.out) hb); replace BK462 := qA0.mk (qAL (g := gb462) (o := .cells #[.int .i64 a1_0, .slice Ao20 y466.length co20, u463002] 35 (0, 0)) (by refine zf3 ?_ NB462_470; (with_reducible repeat refine st ?_); exact BK462.out) hb); replace BK470 := qA0.mk (qAL (zp3 BK470) hb); replace HB := zB hb; (try clear hb hk); (try clear hb)) | ((with_reducible refine qA9 (N := 15) rfl ?_); refine boxZ 15 #[.string (⟨#[]⟩ : ByteArray), .int .i64 0, .bool false, .int .i64 0, .int .i64 0, .int .i64 0, .int .i64 0] 60 ?_; intro gb484 hg w51 hbox hb; have BK484 := qA0.mk (hbox); have GW484 := zg w gb484; have GE484 := zg w gb484; have NB460_484 := zl BK460 gb484; have NB484_460 := zu BK460 gb484; have NB461_484 := zl BK461 gb484; have NB484_461 := zu BK461 gb484; have NB462_484 := zl BK462 gb484; have NB484_462 := zu BK462 gb484; have NB470_484 := zl BK470 gb484; have NB484_470 := zu BK470 gb484; replace HO_463001 := qA0.mk (Kd.qBN (by (with_reducible repeat refine sR ?_); exact HO_463001.out) hb); replace HO_463002 := qA0.mk (Kd.qBN (by (with_reducible repeat refine sR ?_); exact HO_463002.out) hb); replace BK460 := zK BK460 hb; replace BK461 := zK BK461 hb; replace BK462 := zK BK462 hb; replace BK470 := zK BK470 hb; replace HB := zB hb; clear hb hbox hg; have hnb52 := NB484_460.out; have hnc52 := NB460_484.out; have hnb53 := NB484_461.out; have hnc53 := NB461_484.out; have hnb54 := NB484_462.out; have hnc54 := NB462_484.out; have hnb55 := NB484_470.out; have hnc55 := NB470_484.out; obtain ⟨hcz56_0, hcz56_1, hcz56_2, hcz56_3, hcz56_4, hcz56_5, hcz56_6, hfz56_0, hfz56_1, hfz56_2, hfz56_3, hfz56_4, hfz56_5, hfz56_6⟩ := bc7 BK484.out))
 have n0_ : qA0 (Kd.R k83 83 (((((((w51.setCell ⟨gb484, 0, none⟩ (.string t476)).setCell ⟨gb484, 1, none⟩ (.int .i64 t477)).setCell ⟨gb484, 2, none⟩ (.bool t478)).setCell ⟨gb484, 3, none⟩ (.int .i64 t479)).setCell ⟨gb484, 4, none⟩ (.int .i64 t480)).setCell ⟨gb484, 5, none⟩ (.int .i64 t481)).setCell ⟨gb484, 6, none⟩ (.int .i64 t482)) w.heap.size (fun _ => True) (.slice Ao20 y466.length co20) y466) := ⟨by (with_reducible repeat refine sR ?_); exact Kd.qB7 (Kd.qAW (Kd.qAW (Kd.qAW (Kd.qAW (Kd.qAW (Kd.qAW (Kd.qAW (Kd.qBG HO_463001.out BK484.out (by decide)) (fun _ hk => hk.2) _) (fun _ hk => hk.2) _) (fun _ hk => hk.2) _) (fun _ hk => hk.2) _) (fun _ hk => hk.2) _) (fun _ hk => hk.2) _) (fun _ hk => hk.2) _) (fun _ hk => trivial)⟩
 have n1_ : qA0 (Kd.R k86 86 (((((((w51.setCell ⟨gb484, 0, none⟩ (.string t476)).setCell ⟨gb484, 1, none⟩ (.int .i64 t477)).setCell ⟨gb484, 2, none⟩ (.bool t478)).setCell ⟨gb484, 3, none⟩ (.int .i64 t479)).setCell ⟨gb484, 4, none⟩ (.int .i64 t480)).setCell ⟨gb484, 5, none⟩ (.int .i64 t481)).setCell ⟨gb484, 6, none⟩ (.int .i64 t482)) w.heap.size (fun _ => True) u463002 x463002_2) := ⟨by (with_reducible repeat refine sR ?_); exact Kd.qB7 (Kd.qAW (Kd.qAW (Kd.qAW (Kd.qAW (Kd.qAW (Kd.qAW (Kd.qAW (Kd.qBG HO_463002.out BK484.out (by decide)) (fun _ hk => hk.2) _) (fun _ hk => hk.2) _) (fun _ hk => hk.2) _) (fun _ hk => hk.2) _) (fun _ hk => hk.2) _) (fun _ hk => hk.2) _) (fun _ hk => hk.2) _) (fun _ hk => trivial)⟩
 have n2_ : qA0 ((((((((w51.setCell ⟨gb484, 0, none⟩ (.string t476)).setCell ⟨gb484, 1, none⟩ (.int .i64 t477)).setCell ⟨gb484, 2, none⟩ (.bool t478)).setCell ⟨gb484, 3, none⟩ (.int .i64 t479)).setCell ⟨gb484, 4, none⟩ (.int .i64 t480)).setCell ⟨gb484, 5, none⟩ (.int .i64 t481)).setCell ⟨gb484, 6, none⟩ (.int .i64 t482)).heap[gb460]? = some (.cells #[.int .i64 a1_0, .slice A1_1 l1_1.length c1_1, .slice (some ad469) l1_2.length c1_2, .int .i64 a1_3] 27 (0, 0))) := ⟨by refine zf7 ?_ NB460_484; (with_reducible repeat refine st ?_); exact BK460.out⟩
 have n3_ : qA0 ((((((((w51.setCell ⟨gb484, 0, none⟩ (.string t476)).setCell ⟨gb484, 1, none⟩ (.int .i64 t477)).setCell ⟨gb484, 2, none⟩ (.bool t478)).setCell ⟨gb484, 3, none⟩ (.int .i64 t479)).setCell ⟨gb484, 4, none⟩ (.int .i64 t480)).setCell ⟨gb484, 5, none⟩ (.int .i64 t481)).setCell ⟨gb484, 6, none⟩ (.int .i64 t482)).heap[gb461]? = some (.cells #[.int .i64 0, .slice none 0 0, .slice none 0 0] 35 (0, 0))) := ⟨by refine zf7 ?_ NB461_484; (with_reducible repeat refine st ?_); exact BK461.out⟩
 have n4_ : qA0 ((((((((w51.setCell ⟨gb484, 0, none⟩ (.string t476)).setCell ⟨gb484, 1, none⟩ (.int .i64 t477)).setCell ⟨gb484, 2, none⟩ (.bool t478)).setCell ⟨gb484, 3, none⟩ (.int .i64 t479)).setCell ⟨gb484, 4, none⟩ (.int .i64 t480)).setCell ⟨gb484, 5, none⟩ (.int .i64 t481)).setCell ⟨gb484, 6, none⟩ (.int .i64 t482)).heap[gb462]? = some (.cells #[.int .i64 a1_0, .slice Ao20 y466.length co20, u463002] 35 (0, 0))) := ⟨by refine zf7 ?_ NB462_484; (with_reducible repeat refine st ?_); exact BK462.out⟩
 have n5_ : qA0 ((((((((w51.setCell ⟨gb484, 0, none⟩ (.string t476)).setCell ⟨gb484, 1, none⟩ (.int .i64 t477)).setCell ⟨gb484, 2, none⟩ (.bool t478)).setCell ⟨gb484, 3, none⟩ (.int .i64 t479)).setCell ⟨gb484, 4, none⟩ (.int .i64 t480)).setCell ⟨gb484, 5, none⟩ (.int .i64 t481)).setCell ⟨gb484, 6, none⟩ (.int .i64 t482)).heap[gb470]? = some (.cells #[.string ((qAH l1_2 x43_2).f0), .slice A469_1 ((qAH l1_2 x43_2).f1).length c469_1, .slice A469_2 ((qAH l1_2 x43_2).f2).length c469_2] 56 (0, 0))) := ⟨by refine zf7 ?_ NB470_484; (with_reducible repeat refine st ?_); exact BK470.out⟩
 have n6_ : qA0 ((((((((w51.setCell ⟨gb484, 0, none⟩ (.string t476)).setCell ⟨gb484, 1, none⟩ (.int .i64 t477)).setCell ⟨gb484, 2, none⟩ (.bool t478)).setCell ⟨gb484, 3, none⟩ (.int .i64 t479)).setCell ⟨gb484, 4, none⟩ (.int .i64 t480)).setCell ⟨gb484, 5, none⟩ (.int .i64 t481)).setCell ⟨gb484, 6, none⟩ (.int .i64 t482)).heap[gb484]? = some (.cells #[.string t476, .int .i64 t477, .bool t478, .int .i64 t479, .int .i64 t480, .int .i64 t481, .int .i64 t482] 60 (0, 0))) := ⟨zp7 BK484⟩
 have n7_ : qA0 (Below w.heap.size w (((((((w51.setCell ⟨gb484, 0, none⟩ (.string t476)).setCell ⟨gb484, 1, none⟩ (.int .i64 t477)).setCell ⟨gb484, 2, none⟩ (.bool t478)).setCell ⟨gb484, 3, none⟩ (.int .i64 t479)).setCell ⟨gb484, 4, none⟩ (.int .i64 t480)).setCell ⟨gb484, 5, none⟩ (.int .i64 t481)).setCell ⟨gb484, 6, none⟩ (.int .i64 t482))) := ⟨zb⟩
 (try clear HO_463001)
 (try clear HO_463002)
 (try clear BK460)
 (try clear BK461)
 (try clear BK462)
 (try clear BK470)
 (try clear BK484)
 (try clear HB)
 generalize (((((((w51.setCell ⟨gb484, 0, none⟩ (.string t476)).setCell ⟨gb484, 1, none⟩ (.int .i64 t477)).setCell ⟨gb484, 2, none⟩ (.bool t478)).setCell ⟨gb484, 3, none⟩ (.int .i64 t479)).setCell ⟨gb484, 4, none⟩ (.int .i64 t480)).setCell ⟨gb484, 5, none⟩ (.int .i64 t481)).setCell ⟨gb484, 6, none⟩ (.int .i64 t482)) = w57 at n0_ n1_ n2_ n3_ n4_ n5_ n6_ n7_ ⊢
 have HO_463001 := n0_
 have HO_463002 := n1_
 have BK460 := n2_
 have BK461 := n3_
 have BK462 := n4_
 have BK470 := n5_
 have BK484 := n6_
 have HB := n7_
 clear n0_ n1_ n2_ n3_ n4_ n5_ n6_ n7_
 replace HO_463001 := qA0.mk (Kd.qEY HO_463001.out)
 replace HO_463002 := qA0.mk (Kd.qEY HO_463002.out)
 replace BK460 := qA0.mk (qB2 BK460.out)
 replace BK461 := qA0.mk (qB2 BK461.out)
 replace BK462 := qA0.mk (qB2 BK462.out)
 replace BK470 := qA0.mk (qB2 BK470.out)
 replace BK484 := qA0.mk (qB2 BK484.out)
 replace HB := qA0.mk (qAF HB.out)
 have p485 : 0 ≤ (t473 : Int) := zd
 have q485 : t473 < (((qAH l1_2 x43_2).f1).length : Int) := zd
 obtain ⟨ad485, e485, hx485_0⟩ := Kd.qC2 HR469_1.out t473 p485 q485
 have hw485_0 := hx485_0
 cases e485
 (try replace hx485_0 := zh hx485_0)
 replace p485 := eq_true p485
 replace q485 := eq_true q485
 refine qEA (n := 18) (S := fun w' => w'.cell? ⟨gb462, 0, none⟩ = some (.int .i64 a1_0) ∧ w'.cell? ⟨gb462, 1, none⟩ = some (.slice Ao20 y466.length co20) ∧ w'.cell? ⟨gb462, 2, none⟩ = some (u463002) ∧ w'.cell? ⟨gb470, 0, none⟩ = some (.string ((qAH l1_2 x43_2).f0)) ∧ w'.cell? ⟨gb470, 1, none⟩ = some (.slice (some ad485) ((qAH l1_2 x43_2).f1).length c469_1) ∧ w'.cell? ⟨gb470, 2, none⟩ = some (.slice A469_2 ((qAH l1_2 x43_2).f2).length c469_2) ∧ w'.cell? ⟨gb484, 0, none⟩ = some (.string t476) ∧ w'.cell? ⟨gb484, 1, none⟩ = some (.int .i64 t477) ∧ w'.cell? ⟨gb484, 2, none⟩ = some (.bool t478) ∧ w'.cell? ⟨gb484, 3, none⟩ = some (.int .i64 t479) ∧ w'.cell? ⟨gb484, 4, none⟩ = some (.int .i64 t480) ∧ w'.cell? ⟨gb484, 5, none⟩ = some (.int .i64 t481) ∧ w'.cell? ⟨gb484, 6, none⟩ = some (.int .i64 t482) ∧ w'.cell? (ad485.add (t473).toNat) = some (.int .i64 (rd ((qAH l1_2 x43_2).f1) t473))) (ds := [17]) (bs 18 0) (by kernel_rfl) rfl rfl ⟨(qA1 BK462.out 0).trans rfl, (qA1 BK462.out 1).trans rfl, (qA1 BK462.out 2).trans rfl, (qA1 BK470.out 0).trans rfl, (qA1 BK470.out 1).trans rfl, (qA1 BK470.out 2).trans rfl, (qA1 BK484.out 0).trans rfl, (qA1 BK484.out 1).trans rfl, (qA1 BK484.out 2).trans rfl, (qA1 BK484.out 3).trans rfl, (qA1 BK484.out 4).trans rfl, (qA1 BK484.out 5).trans rfl, (qA1 BK484.out 6).trans rfl, (zh hw485_0)⟩ (fun hHeld => ?_); refine qCS qC0.tab15 qC0.bits15 (fun HT_ HW_ => ?_)
 generalize w57.drew = w58 at HO_463001 HO_463002 BK460 BK461 BK462 BK470 BK484 HB hx485_0 hHeld ⊢
 refine qBF (i := 0) (N := some 71) (bs 18 1) ?_
 refine qBF (i := 2) (N := some 73) (bs 18 5) ?_
 refine qBF (i := 3) (N := some 74) (bs 18 13) ?_
 refine qBF (i := 5) (N := some 76) (bs 18 45) ?_
 refine qBF (i := 7) (N := some 78) (bs 18 173) ?_
 refine qBF (i := 9) (N := some 80) (bs 18 685) ?_
 refine qDT (i := 1) (N := some 72) (bs 18 687) ?_
 refine qDT (i := 4) (N := some 75) (bs 18 703) ?_
 refine qDT (i := 6) (N := some 77) (bs 18 767) ?_
 refine qDT (i := 8) (N := some 79) (bs 18 1023) ?_
 refine qBF (i := 10) (N := some 81) (bs 18 2047) ?_
 refine qDT (i := 11) (N := some 82) (bs 18 4095) ?_
 refine qBF (i := 12) (N := some 83) (bs 18 8191) ?_
 refine qBF (i := 13) (N := some 84) (bs 18 16383) ?_
 refine one_ (i := 14) (N := some 85) (bs 18 32767) rfl rfl (qCR HT_.out (by kernel_rfl)) (by decide) (fun K hK => ?_)
 refine value_ (w1 := ?_) (v := ?_) (by rfl) rfl ?_ ?_
 rotate_left 2
 ·go_simp
  constructor
  ·rfl
  ·rfl
 refine hK.out _ _ ⟨(qA1 (qB8 BK462.out _) 0).trans rfl, (qA1 (qB8 BK462.out _) 1).trans rfl, (qA1 (qB8 BK462.out _) 2).trans rfl, (qA1 (qB8 BK470.out _) 0).trans rfl, (qA1 (qB8 BK470.out _) 1).trans rfl, (qA1 (qB8 BK470.out _) 2).trans rfl, (qA1 (qB8 BK484.out _) 0).trans rfl, (qA1 (qB8 BK484.out _) 1).trans rfl, (qA1 (qB8 BK484.out _) 2).trans rfl, (qA1 (qB8 BK484.out _) 3).trans rfl, (qA1 (qB8 BK484.out _) 4).trans rfl, (qA1 (qB8 BK484.out _) 5).trans rfl, (qA1 (qB8 BK484.out _) 6).trans rfl, (World.cell?_alloc_lt _ _ _ (World.block_lt_of_cell? _ _ ((zh hw485_0)))).trans ((zh hw485_0))⟩ (fun hHeld => ?_)
 clear hK K
 refine qEB ?_
 refine one_ (i := 15) (N := some 86) (bs 18 65535) rfl rfl (qCR HT_.out (by kernel_rfl)) (by decide) (fun K hK => ?_)
 refine Kd.R_append_step k86 (w0 := w) w.heap.size (by rfl) (.tmp 72) (.tmp 85) 33 86 (.agg #[(.int .i64 0), (.string ⟨#[]⟩), (.int .i64 0), (.int .i64 0)]) 40 rfl Tryz.underlying33 info86 rfl (by decide) (by omega) u463002 x463002_2 (⟨x30_1, (qAH l1_2 x43_2).f0, (⟨t477, rd ((qAH l1_2 x43_2).f1) t473⟩ : S58)⟩ : S86) [.int .i64 x30_1, .string ((qAH l1_2 x43_2).f0), .int .i64 t477, .int .i64 (rd ((qAH l1_2 x43_2).f1) t473)] (fun _ => True) (fun _ => False) rfl rfl ?aP (fun _ hk => hk.elim) ?aF ?aO ?aB ?aS ?aL ?_
 (case aP => exact k86_mkM _ _ _ (⟨x30_1, (qAH l1_2 x43_2).f0, (⟨t477, rd ((qAH l1_2 x43_2).f1) t473⟩ : S58)⟩ : S86))
 (case aB => exact zb)
 (case aF => exact (fun _ _ => trivial))
 (case aO => exact (by (with_reducible repeat refine sR ?_); exact HO_463002.out))
 (case aS => exact (qAI zb))
 (case aL => have := LMc41.out; omega)
 intro v487 w59 ho hb hg hat
 rw [← Ny486.out] at ho
 have HO488 := qA0.mk (ho)
 replace HO_463001 := qA0.mk (Kd.R_over' (by (with_reducible repeat refine sR ?_); exact HO_463001.out) (Kd.qFE (by (with_reducible repeat refine sR ?_); exact HO_463002.out)) (by decide) hg)
 replace BK460 := qA0.mk (qAO (g := gb460) (o := .cells #[.int .i64 a1_0, .slice A1_1 l1_1.length c1_1, .slice (some ad469) l1_2.length c1_2, .int .i64 a1_3] 27 (0, 0)) (zk BK460) hg (Kd.R_ne HO_463002.out BK460.out (by decide)))
 replace BK461 := qA0.mk (qAO (g := gb461) (o := .cells #[.int .i64 0, .slice none 0 0, .slice none 0 0] 35 (0, 0)) (zk BK461) hg (Kd.R_ne HO_463002.out BK461.out (by decide)))
 replace BK462 := qA0.mk (qAO (g := gb462) (o := .cells #[.int .i64 a1_0, .slice Ao20 y466.length co20, u463002] 35 (0, 0)) (zk BK462) hg (Kd.R_ne HO_463002.out BK462.out (by decide)))
 replace BK470 := qA0.mk (qAO (g := gb470) (o := .cells #[.string ((qAH l1_2 x43_2).f0), .slice (some ad485) ((qAH l1_2 x43_2).f1).length c469_1, .slice A469_2 ((qAH l1_2 x43_2).f2).length c469_2] 56 (0, 0)) (zk BK470) hg (Kd.R_ne HO_463002.out BK470.out (by decide)))
 replace BK484 := qA0.mk (qAO (g := gb484) (o := .cells #[.string t476, .int .i64 t477, .bool t478, .int .i64 t479, .int .i64 t480, .int .i64 t481, .int .i64 t482] 60 (0, 0)) (zk BK484) hg (Kd.R_ne HO_463002.out BK484.out (by decide)))
 replace HB := qA0.mk (hb)
 clear HO_463002
 clear ho hb hg hat
 obtain ⟨Ao60, co60, eo60⟩ := Kd.qBV HO488.out
 (first | subst eo60 | (injection eo60 with f1_ f2_ f3_; have f4_ := f1_.symm; have f5_ := f3_.symm; clear f1_ f2_ f3_; subst f4_; subst f5_))
 refine hK.out _ _ ⟨(qA1 BK462.out 0).trans rfl, (qA1 BK462.out 1).trans rfl, (qA1 BK462.out 2).trans rfl, (qA1 BK470.out 0).trans rfl, (qA1 BK470.out 1).trans rfl, (qA1 BK470.out 2).trans rfl, (qA1 BK484.out 0).trans rfl, (qA1 BK484.out 1).trans rfl, (qA1 BK484.out 2).trans rfl, (qA1 BK484.out 3).trans rfl, (qA1 BK484.out 4).trans rfl, (qA1 BK484.out 5).trans rfl, (qA1 BK484.out 6).trans rfl, (zh hw485_0)⟩ (fun hHeld => ?_)
 clear hK K
 refine qEB ?_
 refine qBF (i := 16) (N := some 87) (bs 18 131071) ?_
 refine last_ (i := 17) (N := none) (bs 18 262143) rfl rfl (qCR HT_.out (by kernel_rfl)) (by decide) (fun K hK => ?_)
 have hs61 : w59.cell? ⟨gb462, 2, none⟩ = some (u463002) := (qA1 BK462.out 2).trans rfl
 have hfs61 := qB1 BK462.out 2
 have hns61_0 := NB460_462.out
 have hns61_1 := NB461_462.out
 have hns61_3 := NB470_462.out
 have hns61_4 := NB484_462.out
 have hms61_0 := NB462_460.out
 have hms61_1 := NB462_461.out
 have hms61_3 := NB462_470.out
 have hms61_4 := NB462_484.out
 refine skip_ (w1 := ?_) (by rfl) rfl ?_ ?_
 rotate_left
 ·go_simp
  rfl
 refine hK.out _ _ ?_
 clear hK K
 refine qF9 (qDX HT_.out (by kernel_rfl)) ?_
 try go_wp2
 go_roundg k2
 case measure => have := HK1.out; have := HK2.out; omega
 case rel => exact ⟨(t474), (wrap64 (x43_2 + 1)), (y486), (.slice Ao60 y486.length co60), zs, zs, H', ⟨by have := HK1.out; have := HK2.out; omega⟩, ⟨by (with_reducible repeat refine sR ?_); exact Kd.qB7 (Kd.qAW (Kd.qBG HO_463001.out BK462.out (by decide)) (fun _ hk => hk.2) _) (fun _ hk => trivial)⟩, ⟨by (with_reducible repeat refine sR ?_); exact Kd.qB7 (Kd.qAW (Kd.qBG HO488.out BK462.out (by decide)) (fun _ hk => hk.2) _) (fun _ hk => trivial)⟩, ⟨by refine zf_ ?_ NB460_462; (with_reducible repeat refine st ?_); exact BK460.out⟩, ⟨by refine zf_ ?_ NB461_462; (with_reducible repeat refine st ?_); exact BK461.out⟩, ⟨by refine zp_ (cs := #[.int .i64 a1_0, .slice Ao20 y466.length co20, u463002]) ?_ 2; (with_reducible repeat refine st ?_); exact BK462.out⟩, ⟨zb⟩⟩
def qE6.f (a0 : Int) (a1 : Int) : Option (Int) := (qEH.f (IntKind.u64.wrap ((IntKind.u64.wrap (a1)) + 11400714819323198485))).bind fun t489 => ((qEH.f (Go.bits .xor .u64 a0 t489)).bind fun t490 => (some t490))
theorem qE6.calls (a0 : Int) (a1 : Int) (r : Int) (w : World) (h : qE6.f a0 a1 = some r) :
  Calls Tryz.prog 29 #[.int .u64 a0, .int .i64 a1] w fun e w' => e = .returned (.int .u64 r) ∧ qAX w w' := by
 have H := h
 unfold qE6.f at H
 clear h
 replace H := zi H
 obtain ⟨t489, A30, H⟩ := H
 have A3 := qA0.mk A30
 clear A30
 replace H := zi H
 obtain ⟨t490, A40, H⟩ := H
 have A4 := qA0.mk A40
 clear A40
 obtain rfl := Option.some.inj H
 go_enter Tryz.func29, Tryz.ntmps29
 go_wp2_with (first | ((with_reducible refine qA6 (f := 60) rfl ?_); refine qBP (some 9) Tryz.func60 #[.int .u64 (IntKind.u64.wrap ((IntKind.u64.wrap (a1)) + 11400714819323198485))] ?_; (with_reducible refine (qEH.calls (IntKind.u64.wrap ((IntKind.u64.wrap (a1)) + 11400714819323198485)) t489 _ A3.out).mono ?_); rintro e w' ⟨rfl, ⟨nd, rfl⟩⟩; refine ⟨_, rfl, ?_⟩) | ((with_reducible refine qA6 (f := 60) rfl ?_); refine qBP (some 11) Tryz.func60 #[.int .u64 (Go.bits .xor .u64 a0 t489)] ?_; (with_reducible refine (qEH.calls (Go.bits .xor .u64 a0 t489) t490 _ A4.out).mono ?_); rintro e w' ⟨rfl, ⟨nd, rfl⟩⟩; refine ⟨_, rfl, ?_⟩))
 go_ret
 exact ⟨zs, zD⟩
end
end Go.Proofs.YtpafpefealopoaaGreat.PPopMakes
end
