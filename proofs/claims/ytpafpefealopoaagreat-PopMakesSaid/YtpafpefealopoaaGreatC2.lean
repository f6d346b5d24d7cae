/- A part of the proof of PopMakes: texts that were printed, words, walks. No condition. -/
import Derived.Test.YtpafpefealopoaaGreatC1
import Derived.Maps.OwnOps
import Derived.Maps.RangeWalk
set_option linter.unusedVariables false
set_option linter.unusedSimpArgs false
section
namespace Go.Proofs.YtpafpefealopoaaGreat.PPopMakes
noncomputable section
open Go.RowKit Go.Proofs.YtpafpefealopoaaGreatW.PrintWords Go.Proofs.YtpafpefealopoaaGreatW.PrintLast Go.Proofs.YtpafpefealopoaaGreatW.PrintMore
set_option maxHeartbeats 8000000
set_option maxRecDepth 100000
def qBM.l0 : Nat → List (S76) → Int → List (S76) → Int → Int → Option (Int)
 | 0, _, _, _, _, _ => none
 | k + 1, x0, x3, x6, x7, x8 => if x8 < x7 then (if 0 ≤ x8 then (if x8 < (x6.length : Int) then (if (((qAB x6 x8).f5).length : Int) > 60 then (some 2) else (if (((qAB x6 x8).f4).length : Int) > 8 then (some 2) else (qBM.l0 k x0 (wrap64 (x3 + (((qAB x6 x8).f3).length : Int))) x6 x7 (wrap64 (x8 + 1))))) else (none)) else (none)) else (if (x0.length : Int) > 8 then (some 2) else (if x3 > 40 then (some 2) else (some 0)))
def qBM.f (k : Nat) (l0 : List (S76)) : Option (Int) := qBM.l0 k l0 0 l0 (l0.length : Int) 0
theorem qBM.qC6 : ∀ k, (∀ y0 y1 y2 y3 y4, LeO (qBM.l0 k y0 y1 y2 y3 y4) (qBM.l0 (k + 1) y0 y1 y2 y3 y4))
 | 0 => fun _ _ _ _ _ r h => by simp [qBM.l0] at h
 | k + 1 => by
  have ih0 := qBM.qC6 k
  ·intro y0 y1 y2 y3 y4
   unfold qBM.l0
   exact zm
theorem qBM.mono : ∀ a0 k, LeO (qBM.f k a0) (qBM.f (k + 1) a0) := by
 intro a0 k
 have ih0 := qBM.qC6 k
 unfold qBM.f
 exact zm
theorem qBM.calls (k : Nat) (A0 : Option Addr) (c0 : Nat) (l0 : List (S76)) (r : Int) (w : World) (hr0 : Kd.C k76 w A0 l0.length l0) (hc0 : l0.length ≤ c0) (h : qBM.f k l0 = some r) :
  Calls Tryz.prog 47 #[.slice A0 l0.length c0] w fun e w' => e = .returned (.int .i64 r) ∧ Below w.heap.size w w' := by
 have hu76 := Tryz.underlying76
 have HR0 := qA0.mk hr0
 have HC0 := qA0.mk hc0
 clear hr0 hc0
 have HB := qA0.mk (Below.refl w.heap.size w)
 have H := h
 unfold qBM.f at H
 clear h
 have H' := qA0.mk H
 clear H
 go_enter Tryz.func47, Tryz.ntmps47
 go_wp2
 go_loopg [3, 8] k (fun kq v3 v8 w' => ∃ (x3_1 : Int) (x8_1 : Int), v3 = .int .i64 x3_1 ∧ v8 = .int .i64 x8_1 ∧ qA0 (qBM.l0 kq l0 x3_1 l0 (l0.length : Int) x8_1 = some r) ∧ qA0 (kq ≤ k) ∧ qA0 (Below w.heap.size w w'))
 case atStart => exact ⟨(0), (0), zs, zs, H', ⟨Nat.le_refl _⟩, ⟨zb⟩⟩
 clear H'
 obtain ⟨x3_1, x8_1, rfl, rfl, HA, HK1, HB⟩ := hrel
 obtain _ | k1 := gk
 ·exact absurd HA.out (by simp [qBM.l0])
 have H := HA.out
 clear HA
 simp only [qBM.l0] at H
 by_cases c2 : x8_1 < (l0.length : Int)
 rotate_left
 ·rw [if_neg c2] at H
  have c2b0 := decide_eq_false c2
  clear c2
  by_cases c13 : (l0.length : Int) > 8
  ·rw [if_pos c13] at H
   have c13b0 := decide_eq_true c13
   have c13b1 : decide (8 < l0.length) = true := decide_eq_true (by omega)
   clear c13
   obtain rfl := Option.some.inj H
   go_wp2
   go_ret
   exact ⟨zf, zb⟩
  rw [if_neg c13] at H
  have c13b0 := decide_eq_false c13
  have c13b1 : decide (8 < l0.length) = false := decide_eq_false (by omega)
  clear c13
  by_cases c14 : x3_1 > 40
  rotate_left
  ·rw [if_neg c14] at H
   have c14b0 := decide_eq_false c14
   clear c14
   obtain rfl := Option.some.inj H
   go_wp2
   go_ret
   exact ⟨zf, zb⟩
  rw [if_pos c14] at H
  have c14b0 := decide_eq_true c14
  clear c14
  obtain rfl := Option.some.inj H
  go_wp2
  go_ret
  exact ⟨zf, zb⟩
 rw [if_pos c2] at H
 have c2b0 := decide_eq_true c2
 clear c2
 by_cases c3 : 0 ≤ x8_1
 rotate_left
 ·rw [if_neg c3] at H
  cases H
 rw [if_pos c3] at H
 have c3b0 := decide_eq_true c3
 clear c3
 by_cases c4 : x8_1 < (l0.length : Int)
 rotate_left
 ·rw [if_neg c4] at H
  cases H
 rw [if_pos c4] at H
 have c4b0 := decide_eq_true c4
 clear c4
 by_cases c5 : (((qAB l0 x8_1).f5).length : Int) > 60
 ·rw [if_pos c5] at H
  have c5b0 := decide_eq_true c5
  have c5b1 : decide (60 < ((qAB l0 x8_1).f5).length) = true := decide_eq_true (by omega)
  clear c5
  obtain rfl := Option.some.inj H
  have p101 : 0 ≤ (x8_1 : Int) := zd
  have q101 : x8_1 < (l0.length : Int) := zd
  obtain ⟨ad101, A101_3, c101_3, A101_4, c101_4, A101_5, c101_5, e101, hx101_0, hx101_1, hx101_2, hx101_3, hx101_4, hx101_5, hl101_3, hi101_3, hl101_4, hi101_4, hl101_5, hi101_5⟩ := at_T76 HR0.out x8_1 p101 q101
  cases e101
  (try replace hx101_0 := zh hx101_0)
  replace hx101_1 := zh hx101_1
  replace hx101_2 := zh hx101_2
  replace hx101_3 := zh hx101_3
  replace hx101_4 := zh hx101_4
  replace hx101_5 := zh hx101_5
  have HR101_3 := qA0.mk hi101_3
  have HC101_3 := qA0.mk hl101_3
  clear hi101_3 hl101_3
  have HR101_4 := qA0.mk hi101_4
  have HC101_4 := qA0.mk hl101_4
  clear hi101_4 hl101_4
  have HR101_5 := qA0.mk hi101_5
  have HC101_5 := qA0.mk hl101_5
  clear hi101_5 hl101_5
  replace p101 := eq_true p101
  replace q101 := eq_true q101
  go_wp2_with (((with_reducible refine qA9 (N := 5) rfl ?_); (try (refine qBD (by rfl) ?_; dsimp only)); refine boxZ 5 #[.string (⟨#[]⟩ : ByteArray), .int .i64 0, .int .i64 0, .slice none 0 0, .slice none 0 0, .slice none 0 0] 76 ?_; intro gb102 hg w6 hbox hb; have BK102 := qA0.mk (hbox); have GW102 := zg w gb102; have GE102 := zg w gb102; replace HB := zB hb; clear hb hbox hg; obtain ⟨hcz7_0, hcz7_1, hcz7_2, hcz7_3, hcz7_4, hcz7_5, hfz7_0, hfz7_1, hfz7_2, hfz7_3, hfz7_4, hfz7_5⟩ := bc6 BK102.out))
  go_ret
  exact ⟨zf, zb⟩
 rw [if_neg c5] at H
 have c5b0 := decide_eq_false c5
 have c5b1 : decide (60 < ((qAB l0 x8_1).f5).length) = false := decide_eq_false (by omega)
 clear c5
 by_cases c8 : (((qAB l0 x8_1).f4).length : Int) > 8
 ·rw [if_pos c8] at H
  have c8b0 := decide_eq_true c8
  have c8b1 : decide (8 < ((qAB l0 x8_1).f4).length) = true := decide_eq_true (by omega)
  clear c8
  obtain rfl := Option.some.inj H
  have p101 : 0 ≤ (x8_1 : Int) := zd
  have q101 : x8_1 < (l0.length : Int) := zd
  obtain ⟨ad101, A101_3, c101_3, A101_4, c101_4, A101_5, c101_5, e101, hx101_0, hx101_1, hx101_2, hx101_3, hx101_4, hx101_5, hl101_3, hi101_3, hl101_4, hi101_4, hl101_5, hi101_5⟩ := at_T76 HR0.out x8_1 p101 q101
  cases e101
  (try replace hx101_0 := zh hx101_0)
  replace hx101_1 := zh hx101_1
  replace hx101_2 := zh hx101_2
  replace hx101_3 := zh hx101_3
  replace hx101_4 := zh hx101_4
  replace hx101_5 := zh hx101_5
  have HR101_3 := qA0.mk hi101_3
  have HC101_3 := qA0.mk hl101_3
  clear hi101_3 hl101_3
  have HR101_4 := qA0.mk hi101_4
  have HC101_4 := qA0.mk hl101_4
  clear hi101_4 hl101_4
  have HR101_5 := qA0.mk hi101_5
  have HC101_5 := qA0.mk hl101_5
  clear hi101_5 hl101_5
  replace p101 := eq_true p101
  replace q101 := eq_true q101
  go_wp2_with (((with_reducible refine qA9 (N := 5) rfl ?_); (try (refine qBD (by rfl) ?_; dsimp only)); refine boxZ 5 #[.string (⟨#[]⟩ : ByteArray), .int .i64 0, .int .i64 0, .slice none 0 0, .slice none 0 0, .slice none 0 0] 76 ?_; intro gb102 hg w9 hbox hb; have BK102 := qA0.mk (hbox); have GW102 := zg w gb102; have GE102 := zg w gb102; replace HB := zB hb; clear hb hbox hg; obtain ⟨hcz10_0, hcz10_1, hcz10_2, hcz10_3, hcz10_4, hcz10_5, hfz10_0, hfz10_1, hfz10_2, hfz10_3, hfz10_4, hfz10_5⟩ := bc6 BK102.out))
  go_ret
  exact ⟨zf, zb⟩
 rw [if_neg c8] at H
 have c8b0 := decide_eq_false c8
 have c8b1 : decide (8 < ((qAB l0 x8_1).f4).length) = false := decide_eq_false (by omega)
 clear c8
 have H' := qA0.mk H
 clear H
 have p101 : 0 ≤ (x8_1 : Int) := zd
 have q101 : x8_1 < (l0.length : Int) := zd
 obtain ⟨ad101, A101_3, c101_3, A101_4, c101_4, A101_5, c101_5, e101, hx101_0, hx101_1, hx101_2, hx101_3, hx101_4, hx101_5, hl101_3, hi101_3, hl101_4, hi101_4, hl101_5, hi101_5⟩ := at_T76 HR0.out x8_1 p101 q101
 cases e101
 (try replace hx101_0 := zh hx101_0)
 replace hx101_1 := zh hx101_1
 replace hx101_2 := zh hx101_2
 replace hx101_3 := zh hx101_3
 replace hx101_4 := zh hx101_4
 replace hx101_5 := zh hx101_5
 have HR101_3 := qA0.mk hi101_3
 have HC101_3 := qA0.mk hl101_3
 clear hi101_3 hl101_3
 have HR101_4 := qA0.mk hi101_4
 have HC101_4 := qA0.mk hl101_4
 clear hi101_4 hl101_4
 have HR101_5 := qA0.mk hi101_5
 have HC101_5 := qA0.mk hl101_5
 clear hi101_5 hl101_5
 replace p101 := eq_true p101
 replace q101 := eq_true q101
 go_wp2_with (((with_reducible refine qA9 (N := 5) rfl ?_); (try (refine qBD (by rfl) ?_; dsimp only)); refine boxZ 5 #[.string (⟨#[]⟩ : ByteArray), .int .i64 0, .int .i64 0, .slice none 0 0, .slice none 0 0, .slice none 0 0] 76 ?_; intro gb102 hg w11 hbox hb; have BK102 := qA0.mk (hbox); have GW102 := zg w gb102; have GE102 := zg w gb102; replace HB := zB hb; clear hb hbox hg; obtain ⟨hcz12_0, hcz12_1, hcz12_2, hcz12_3, hcz12_4, hcz12_5, hfz12_0, hfz12_1, hfz12_2, hfz12_3, hfz12_4, hfz12_5⟩ := bc6 BK102.out))
 go_roundg k1
 case measure => have := HK1.out; omega
 case rel => exact ⟨(wrap64 (x3_1 + (((qAB l0 x8_1).f3).length : Int))), (wrap64 (x8_1 + 1)), zs, zs, H', ⟨by have := HK1.out; omega⟩, ⟨zb⟩⟩
def qCL.f (a0 : Int) : Option (Bool) := if a0 ≥ 97 then (some (decide (a0 ≤ 122))) else (some false)
theorem qCL.calls (a0 : Int) (r : Bool) (w : World) (h : qCL.f a0 = some r) :
  Calls Tryz.prog 106 #[.int .u8 a0] w fun e w' => e = .returned (.bool r) ∧ qAX w w' := by
 have H := h
 unfold qCL.f at H
 clear h
 by_cases c2 : a0 ≥ 97
 rotate_left
 ·rw [if_neg c2] at H
  have c2b0 := decide_eq_false c2
  clear c2
  obtain rfl := Option.some.inj H
  go_enter Tryz.func106, Tryz.ntmps106
  go_wp2
  go_ret
  exact ⟨zs, zD⟩
 rw [if_pos c2] at H
 have c2b0 := decide_eq_true c2
 clear c2
 obtain rfl := Option.some.inj H
 go_enter Tryz.func106, Tryz.ntmps106
 go_wp2
 go_ret
 exact ⟨zs, zD⟩
def qE9.f (a0 : Int) : Option (Bool) := if a0 ≥ 48 then (some (decide (a0 ≤ 57))) else (some false)
theorem qE9.calls (a0 : Int) (r : Bool) (w : World) (h : qE9.f a0 = some r) :
  Calls Tryz.prog 138 #[.int .u8 a0] w fun e w' => e = .returned (.bool r) ∧ qAX w w' := by
 have H := h
 unfold qE9.f at H
 clear h
 by_cases c2 : a0 ≥ 48
 rotate_left
 ·rw [if_neg c2] at H
  have c2b0 := decide_eq_false c2
  clear c2
  obtain rfl := Option.some.inj H
  go_enter Tryz.func138, Tryz.ntmps138
  go_wp2
  go_ret
  exact ⟨zs, zD⟩
 rw [if_pos c2] at H
 have c2b0 := decide_eq_true c2
 clear c2
 obtain rfl := Option.some.inj H
 go_enter Tryz.func138, Tryz.ntmps138
 go_wp2
 go_ret
 exact ⟨zs, zD⟩
def qDU.f (a0 : Int) : Option (Bool) := (qCL.f a0).bind fun t103 => (if t103 = true then (some true) else ((qE9.f a0).bind fun t104 => (if t104 = true then (some true) else (some (a0 == 45)))))
theorem qDU.calls (a0 : Int) (r : Bool) (w : World) (h : qDU.f a0 = some r) :
  Calls Tryz.prog 107 #[.int .u8 a0] w fun e w' => e = .returned (.bool r) ∧ qAX w w' := by
 have H := h
 unfold qDU.f at H
 clear h
 replace H := zi H
 obtain ⟨t103, A20, H⟩ := H
 have A2 := qA0.mk A20
 clear A20
 by_cases c3 : t103 = true
 ·subst c3
  rw [if_pos rfl] at H
  obtain rfl := Option.some.inj H
  go_enter Tryz.func107, Tryz.ntmps107
  go_wp2_with (((with_reducible refine qA6 (f := 106) rfl ?_); refine qBP (some 4) Tryz.func106 #[.int .u8 a0] ?_; (with_reducible refine (qCL.calls a0 true _ A2.out).mono ?_); rintro e w' ⟨rfl, ⟨nd, rfl⟩⟩; refine ⟨_, rfl, ?_⟩))
  go_ret
  exact ⟨zs, zD⟩
 replace c3 := Bool.eq_false_iff.mpr c3
 subst c3
 rw [zj] at H
 replace H := zi H
 obtain ⟨t104, A40, H⟩ := H
 have A4 := qA0.mk A40
 clear A40
 by_cases c5 : t104 = true
 ·subst c5
  rw [if_pos rfl] at H
  obtain rfl := Option.some.inj H
  go_enter Tryz.func107, Tryz.ntmps107
  go_wp2_with (first | ((with_reducible refine qA6 (f := 106) rfl ?_); refine qBP (some 4) Tryz.func106 #[.int .u8 a0] ?_; (with_reducible refine (qCL.calls a0 false _ A2.out).mono ?_); rintro e w' ⟨rfl, ⟨nd, rfl⟩⟩; refine ⟨_, rfl, ?_⟩) | (go_at_call 138; (with_reducible refine (qE9.calls a0 true _ A4.out).mono ?_); rintro e w' ⟨rfl, ⟨nd, rfl⟩⟩))
  go_ret
  exact ⟨zs, zD⟩
 replace c5 := Bool.eq_false_iff.mpr c5
 subst c5
 rw [zj] at H
 obtain rfl := Option.some.inj H
 go_enter Tryz.func107, Tryz.ntmps107
 go_wp2_with (first | ((with_reducible refine qA6 (f := 106) rfl ?_); refine qBP (some 4) Tryz.func106 #[.int .u8 a0] ?_; (with_reducible refine (qCL.calls a0 false _ A2.out).mono ?_); rintro e w' ⟨rfl, ⟨nd, rfl⟩⟩; refine ⟨_, rfl, ?_⟩) | (go_at_call 138; (with_reducible refine (qE9.calls a0 false _ A4.out).mono ?_); rintro e w' ⟨rfl, ⟨nd, rfl⟩⟩))
 go_ret
 exact ⟨zs, zD⟩
def cmp_isNaN_string.f (a0 : ByteArray) : Option (Bool) := some (a0.toList != a0.toList)
theorem cmp_isNaN_string.calls (a0 : ByteArray) (r : Bool) (w : World) (h : cmp_isNaN_string.f a0 = some r) :
  Calls Tryz.prog 101 #[.string a0] w fun e w' => e = .returned (.bool r) ∧ qAX w w' := by
 have H : (some (a0.toList != a0.toList)) = some r := h
 clear h
 obtain rfl := Option.some.inj H
 go_enter Tryz.func101, Tryz.ntmps101
 go_wp2
 go_ret
 exact ⟨zs, zD⟩
def cmp_Less_string.f (a0 : ByteArray) (a1 : ByteArray) : Option (Bool) := (cmp_isNaN_string.f a0).bind fun t105 => (if t105 = true then ((cmp_isNaN_string.f a1).bind fun t106 => (if t106 = true then (some (Op.bytesLess a0.toList a1.toList)) else (some true))) else (some (Op.bytesLess a0.toList a1.toList)))
theorem cmp_Less_string.calls (a0 : ByteArray) (a1 : ByteArray) (r : Bool) (w : World) (h : cmp_Less_string.f a0 a1 = some r) :
  Calls Tryz.prog 139 #[.string a0, .string a1] w fun e w' => e = .returned (.bool r) ∧ qAX w w' := by
 have H := h
 unfold cmp_Less_string.f at H
 clear h
 replace H := zi H
 obtain ⟨t105, A30, H⟩ := H
 have A3 := qA0.mk A30
 clear A30
 by_cases c4 : t105 = true
 rotate_left
 ·replace c4 := Bool.eq_false_iff.mpr c4
  subst c4
  rw [zj] at H
  obtain rfl := Option.some.inj H
  go_enter Tryz.func139, Tryz.ntmps139
  go_wp2_with (((with_reducible refine qA6 (f := 101) rfl ?_); refine qBP (some 6) Tryz.func101 #[.string a0] ?_; (with_reducible refine (cmp_isNaN_string.calls a0 false _ A3.out).mono ?_); rintro e w' ⟨rfl, ⟨nd, rfl⟩⟩; refine ⟨_, rfl, ?_⟩))
  go_ret
  exact ⟨zs, zD⟩
 subst c4
 rw [if_pos rfl] at H
 replace H := zi H
 obtain ⟨t106, A50, H⟩ := H
 have A5 := qA0.mk A50
 clear A50
 by_cases c6 : t106 = true
 ·subst c6
  rw [if_pos rfl] at H
  obtain rfl := Option.some.inj H
  go_enter Tryz.func139, Tryz.ntmps139
  go_wp2_with (first | ((with_reducible refine qA6 (f := 101) rfl ?_); refine qBP (some 6) Tryz.func101 #[.string a0] ?_; (with_reducible refine (cmp_isNaN_string.calls a0 true _ A3.out).mono ?_); rintro e w' ⟨rfl, ⟨nd, rfl⟩⟩; refine ⟨_, rfl, ?_⟩) | (go_at_call 101; (with_reducible refine (cmp_isNaN_string.calls a1 true _ A5.out).mono ?_); rintro e w' ⟨rfl, ⟨nd, rfl⟩⟩))
  go_ret
  exact ⟨zs, zD⟩
 replace c6 := Bool.eq_false_iff.mpr c6
 subst c6
 rw [zj] at H
 obtain rfl := Option.some.inj H
 go_enter Tryz.func139, Tryz.ntmps139
 go_wp2_with (first | ((with_reducible refine qA6 (f := 101) rfl ?_); refine qBP (some 6) Tryz.func101 #[.string a0] ?_; (with_reducible refine (cmp_isNaN_string.calls a0 true _ A3.out).mono ?_); rintro e w' ⟨rfl, ⟨nd, rfl⟩⟩; refine ⟨_, rfl, ?_⟩) | (go_at_call 101; (with_reducible refine (cmp_isNaN_string.calls a1 false _ A5.out).mono ?_); rintro e w' ⟨rfl, ⟨nd, rfl⟩⟩))
 go_ret
 exact ⟨zs, zD⟩
def slices_isNaN_string.f (a0 : ByteArray) : Option (Bool) := some (a0.toList != a0.toList)
theorem slices_isNaN_string.calls (a0 : ByteArray) (r : Bool) (w : World) (h : slices_isNaN_string.f a0 = some r) :
  Calls Tryz.prog 140 #[.string a0] w fun e w' => e = .returned (.bool r) ∧ qAX w w' := by
 have H : (some (a0.toList != a0.toList)) = some r := h
 clear h
 obtain rfl := Option.some.inj H
 go_enter Tryz.func140, Tryz.ntmps140
 go_wp2
 go_ret
 exact ⟨zs, zD⟩
def qA4.l0 : Nat → List ByteArray → ByteArray → Int → Int → Int → Option (Int × Bool)
 | 0, _, _, _, _, _ => none
 | k + 1, x0, x1, x6, x7, x8 => if x7 < x8 then (if 0 ≤ (wrap64 ((IntKind.u64.wrap (wrap64 (x7 + x8))) / 2)) then (if (wrap64 ((IntKind.u64.wrap (wrap64 (x7 + x8))) / 2)) < (x0.length : Int) then ((cmp_Less_string.f (rdOf ByteArray.empty x0 (wrap64 ((IntKind.u64.wrap (wrap64 (x7 + x8))) / 2))) x1).bind fun t108 => (if t108 = true then (qA4.l0 k x0 x1 x6 (wrap64 ((wrap64 ((IntKind.u64.wrap (wrap64 (x7 + x8))) / 2)) + 1)) x8) else (qA4.l0 k x0 x1 x6 x7 (wrap64 ((IntKind.u64.wrap (wrap64 (x7 + x8))) / 2))))) else (none)) else (none)) else (if x7 < x6 then (if 0 ≤ x7 then (if x7 < (x0.length : Int) then (if (rdOf ByteArray.empty x0 x7).toList = x1.toList then (some (x7, true)) else ((slices_isNaN_string.f (rdOf ByteArray.empty x0 x7)).bind fun t111 => (if t111 = true then ((slices_isNaN_string.f x1).bind fun t112 => (some (x7, t112))) else (some (x7, false))))) else (none)) else (none)) else (some (x7, false)))
def qA4.f (k : Nat) (l0 : List ByteArray) (a1 : ByteArray) : Option (Int × Bool) := qA4.l0 k l0 a1 (l0.length : Int) 0 (l0.length : Int)
theorem qA4.qC6 : ∀ k, (∀ y0 y1 y2 y3 y4, LeO (qA4.l0 k y0 y1 y2 y3 y4) (qA4.l0 (k + 1) y0 y1 y2 y3 y4))
 | 0 => fun _ _ _ _ _ r h => by simp [qA4.l0] at h
 | k + 1 => by
  have ih0 := qA4.qC6 k
  ·intro y0 y1 y2 y3 y4
   unfold qA4.l0
   exact zm
theorem qA4.mono : ∀ a0 a1 k, LeO (qA4.f k a0 a1) (qA4.f (k + 1) a0 a1) := by
 intro a0 a1 k
 have ih0 := qA4.qC6 k
 unfold qA4.f
 exact zm
theorem qA4.calls (k : Nat) (A0 : Option Addr) (c0 : Nat) (l0 : List ByteArray) (a1 : ByteArray) (r1 : Int) (r2 : Bool) (w : World) (hr0 : Kd.C Kd.string w A0 l0.length l0) (hc0 : l0.length ≤ c0) (h : qA4.f k l0 a1 = some (r1, r2)) :
  Calls Tryz.prog 108 #[.slice A0 l0.length c0, .string a1] w fun e w' => e = .returned (.tuple #[.int .i64 r1, .bool r2]) ∧ qAX w w' := by
 have HR0 := qA0.mk hr0
 have HC0 := qA0.mk hc0
 clear hr0 hc0
 have H := h
 unfold qA4.f at H
 clear h
 have H' := qA0.mk H
 clear H
 go_enter Tryz.func108, Tryz.ntmps108
 go_wp2
 go_loopg [7, 8] k (fun kq v7 v8 w' => ∃ (x7_1 : Int) (x8_1 : Int), v7 = .int .i64 x7_1 ∧ v8 = .int .i64 x8_1 ∧ qA0 (qA4.l0 kq l0 a1 (l0.length : Int) x7_1 x8_1 = some (r1, r2)) ∧ qA0 (kq ≤ k) ∧ qAX w w')
 case atStart => exact ⟨(0), ((l0.length : Int)), zs, zs, H', ⟨Nat.le_refl _⟩, by repeat (first | exact qAX.refl _ | apply qAX.step)⟩
 clear H'
 obtain ⟨x7_1, x8_1, rfl, rfl, HA, HK1, ⟨m1, rfl⟩⟩ := hrel
 obtain _ | k1 := gk
 ·exact absurd HA.out (by simp [qA4.l0])
 have H := HA.out
 clear HA
 simp only [qA4.l0] at H
 by_cases c3 : x7_1 < x8_1
 ·rw [if_pos c3] at H
  have c3b0 := decide_eq_true c3
  clear c3
  obtain ⟨ji4, hji4⟩ : ∃ j_ : Int, (wrap64 ((IntKind.u64.wrap (wrap64 (x7_1 + x8_1))) / 2)) = j_ := ⟨_, rfl⟩
  replace H : (if 0 ≤ (ji4) then (if (ji4) < (l0.length : Int) then ((cmp_Less_string.f (rdOf ByteArray.empty l0 (ji4)) a1).bind fun t108 => (if t108 = true then (qA4.l0 k1 l0 a1 (l0.length : Int) (wrap64 ((ji4) + 1)) x8_1) else (qA4.l0 k1 l0 a1 (l0.length : Int) x7_1 ji4))) else (none)) else (none)) = some (r1, r2) := by first | (rw [hji4] at H; exact H) | (simp only [hji4] at H ⊢; exact H)
  have hji4w : (IntKind.i64.wrap ((IntKind.u64.wrap (wrap64 (x7_1 + x8_1))) / 2)) = ji4 := (qC9 _).trans hji4
  by_cases c5 : 0 ≤ (ji4)
  rotate_left
  ·rw [if_neg c5] at H
   cases H
  rw [if_pos c5] at H
  have c5b0 := decide_eq_true c5
  clear c5
  by_cases c6 : (ji4) < (l0.length : Int)
  rotate_left
  ·rw [if_neg c6] at H
   cases H
  rw [if_pos c6] at H
  have c6b0 := decide_eq_true c6
  clear c6
  replace H := zi H
  obtain ⟨t108, A70, H⟩ := H
  have A7 := qA0.mk A70
  clear A70
  by_cases c8 : t108 = true
  ·subst c8
   rw [if_pos rfl] at H
   have H' := qA0.mk H
   clear H
   have p107 : 0 ≤ ((ji4) : Int) := zd
   have q107 : (ji4) < (l0.length : Int) := zd
   obtain ⟨ad107, e107, hx107_0⟩ := Kd.qEX HR0.out (ji4) p107 q107
   cases e107
   replace p107 := eq_true p107
   replace q107 := eq_true q107
   go_wp2_with (((with_reducible refine qA6 (f := 139) rfl ?_); refine goesL_ (some 27) rfl rfl Tryz.func139 (by kernel_rfl) rfl #[.string (rdOf ByteArray.empty l0 (ji4)), .string a1] rfl (by (try simp only [List.map_toArray, List.map_cons, List.map_nil]); first | done | (simp only [hji4]; rfl) | rfl | (simp only [List.length_drop, List.length_take]; rfl)) ?_; (with_reducible refine (cmp_Less_string.calls (rdOf ByteArray.empty l0 (ji4)) a1 true _ A7.out).mono ?_); rintro e w' ⟨rfl, ⟨nd, rfl⟩⟩; refine ⟨_, rfl, ?_⟩))
   go_roundg k1
   case measure => have := HK1.out; omega
   case rel => exact ⟨(wrap64 ((ji4) + 1)), (x8_1), (by first | rfl | (simp; done) | (simp only [← hji4] <;> (first | rfl | simp)) | (simp [*]; done)), zs, H', ⟨by have := HK1.out; omega⟩, by repeat (first | exact qAX.refl _ | apply qAX.step)⟩
  replace c8 := Bool.eq_false_iff.mpr c8
  subst c8
  rw [zj] at H
  have H' := qA0.mk H
  clear H
  have p107 : 0 ≤ ((ji4) : Int) := zd
  have q107 : (ji4) < (l0.length : Int) := zd
  obtain ⟨ad107, e107, hx107_0⟩ := Kd.qEX HR0.out (ji4) p107 q107
  cases e107
  replace p107 := eq_true p107
  replace q107 := eq_true q107
  go_wp2_with (((with_reducible refine qA6 (f := 139) rfl ?_); refine goesL_ (some 27) rfl rfl Tryz.func139 (by kernel_rfl) rfl #[.string (rdOf ByteArray.empty l0 (ji4)), .string a1] rfl (by (try simp only [List.map_toArray, List.map_cons, List.map_nil]); first | done | (simp only [hji4]; rfl) | rfl | (simp only [List.length_drop, List.length_take]; rfl)) ?_; (with_reducible refine (cmp_Less_string.calls (rdOf ByteArray.empty l0 (ji4)) a1 false _ A7.out).mono ?_); rintro e w' ⟨rfl, ⟨nd, rfl⟩⟩; refine ⟨_, rfl, ?_⟩))
  go_roundg k1
  case measure => have := HK1.out; omega
  case rel => exact ⟨(x7_1), (ji4), zs, (by first | rfl | (simp; done) | (simp only [← hji4] <;> (first | rfl | simp)) | (simp [*]; done)), H', ⟨by have := HK1.out; omega⟩, by repeat (first | exact qAX.refl _ | apply qAX.step)⟩
 rw [if_neg c3] at H
 have c3b0 := decide_eq_false c3
 clear c3
 by_cases c9 : x7_1 < (l0.length : Int)
 rotate_left
 ·rw [if_neg c9] at H
  have c9b0 := decide_eq_false c9
  clear c9
  simp only [Option.some.injEq, Prod.mk.injEq] at H
  obtain ⟨rfl, rfl⟩ := H
  go_wp2
  go_ret2
  exact ⟨zs, zD⟩
 rw [if_pos c9] at H
 have c9b0 := decide_eq_true c9
 clear c9
 by_cases c10 : 0 ≤ x7_1
 rotate_left
 ·rw [if_neg c10] at H
  cases H
 rw [if_pos c10] at H
 have c10b0 := decide_eq_true c10
 clear c10
 by_cases c11 : x7_1 < (l0.length : Int)
 rotate_left
 ·rw [if_neg c11] at H
  cases H
 rw [if_pos c11] at H
 have c11b0 := decide_eq_true c11
 clear c11
 by_cases c12 : (rdOf ByteArray.empty l0 x7_1).toList = a1.toList
 ·rw [if_pos c12] at H
  have ⟨c12b0, c12b1⟩ := ze c12
  clear c12
  simp only [Option.some.injEq, Prod.mk.injEq] at H
  obtain ⟨rfl, rfl⟩ := H
  have p109 : 0 ≤ (x7_1 : Int) := zd
  have q109 : x7_1 < (l0.length : Int) := zd
  obtain ⟨ad109, e109, hx109_0⟩ := Kd.qEX HR0.out x7_1 p109 q109
  cases e109
  replace p109 := eq_true p109
  replace q109 := eq_true q109
  go_wp2
  go_ret2
  exact ⟨zs, zD⟩
 rw [if_neg c12] at H
 have ⟨c12b0, c12b1⟩ := zn c12
 replace H := zi H
 obtain ⟨t111, A130, H⟩ := H
 have A13 := qA0.mk A130
 clear A130
 by_cases c14 : t111 = true
 rotate_left
 ·replace c14 := Bool.eq_false_iff.mpr c14
  subst c14
  rw [zj] at H
  simp only [Option.some.injEq, Prod.mk.injEq] at H
  obtain ⟨rfl, rfl⟩ := H
  have p109 : 0 ≤ (x7_1 : Int) := zd
  have q109 : x7_1 < (l0.length : Int) := zd
  obtain ⟨ad109, e109, hx109_0⟩ := Kd.qEX HR0.out x7_1 p109 q109
  cases e109
  replace p109 := eq_true p109
  replace q109 := eq_true q109
  have p110 : 0 ≤ (x7_1 : Int) := zd
  have q110 : x7_1 < (l0.length : Int) := zd
  obtain ⟨ad110, e110, hx110_0⟩ := Kd.qEX HR0.out x7_1 p110 q110
  obtain rfl : ad109 = ad110 := (by injection e110)
  replace p110 := eq_true p110
  replace q110 := eq_true q110
  go_wp2_with ((go_at_call 140; (with_reducible refine (slices_isNaN_string.calls (rdOf ByteArray.empty l0 x7_1) false _ A13.out).mono ?_); rintro e w' ⟨rfl, ⟨nd, rfl⟩⟩))
  go_ret2
  exact ⟨zs, zD⟩
 subst c14
 rw [if_pos rfl] at H
 replace H := zi H
 obtain ⟨t112, A150, H⟩ := H
 have A15 := qA0.mk A150
 clear A150
 simp only [Option.some.injEq, Prod.mk.injEq] at H
 obtain ⟨rfl, rfl⟩ := H
 have p109 : 0 ≤ (x7_1 : Int) := zd
 have q109 : x7_1 < (l0.length : Int) := zd
 obtain ⟨ad109, e109, hx109_0⟩ := Kd.qEX HR0.out x7_1 p109 q109
 cases e109
 replace p109 := eq_true p109
 replace q109 := eq_true q109
 have p110 : 0 ≤ (x7_1 : Int) := zd
 have q110 : x7_1 < (l0.length : Int) := zd
 obtain ⟨ad110, e110, hx110_0⟩ := Kd.qEX HR0.out x7_1 p110 q110
 obtain rfl : ad109 = ad110 := (by injection e110)
 replace p110 := eq_true p110
 replace q110 := eq_true q110
 go_wp2_with (first | (go_at_call 140; (with_reducible refine (slices_isNaN_string.calls (rdOf ByteArray.empty l0 x7_1) true _ A13.out).mono ?_); rintro e w' ⟨rfl, ⟨nd, rfl⟩⟩) | (go_at_call 140; (with_reducible refine (slices_isNaN_string.calls a1 t112 _ A15.out).mono ?_); rintro e w' ⟨rfl, ⟨nd, rfl⟩⟩))
 go_ret2
 exact ⟨zs, zD⟩
def qE5.f  : Option (List ByteArray) := some (([(⟨#[97, 99, 116]⟩ : ByteArray), (⟨#[97, 110, 100]⟩ : ByteArray), (⟨#[97, 114, 116, 105, 99, 108, 101]⟩ : ByteArray), (⟨#[97, 116, 45, 109, 111, 115, 116]⟩ : ByteArray), (⟨#[97, 116, 116, 114, 105, 98, 117, 116, 101]⟩ : ByteArray), (⟨#[98, 97, 115, 101]⟩ : ByteArray), (⟨#[98, 101, 108, 111, 119]⟩ : ByteArray), (⟨#[98, 111, 111, 108]⟩ : ByteArray), (⟨#[99, 111, 117, 110, 116]⟩ : ByteArray), (⟨#[100, 97, 116, 101]⟩ : ByteArray), (⟨#[100, 97, 121, 115]⟩ : ByteArray), (⟨#[100, 111, 119, 110]⟩ : ByteArray), (⟨#[101, 108, 115, 101]⟩ : ByteArray), (⟨#[101, 110, 97, 99, 116, 101, 100]⟩ : ByteArray), (⟨#[101, 113, 117, 97, 108, 115]⟩ : ByteArray), (⟨#[102, 97, 108, 115, 101]⟩ : ByteArray), (⟨#[102, 114, 111, 109]⟩ : ByteArray), (⟨#[103, 105, 118, 101, 115]⟩ : ByteArray), (⟨#[103, 114, 101, 97, 116, 101, 115, 116]⟩ : ByteArray), (⟨#[104, 97, 108, 102]⟩ : ByteArray), (⟨#[104, 97, 108, 102, 45, 111, 117, 116]⟩ : ByteArray), (⟨#[104, 97, 108, 102, 45, 116, 119, 111]⟩ : ByteArray), (⟨#[105, 102]⟩ : ByteArray), (⟨#[105, 110, 112, 117, 116]⟩ : ByteArray), (⟨#[105, 115]⟩ : ByteArray), (⟨#[108, 101, 97, 115, 116]⟩ : ByteArray), (⟨#[108, 101, 118, 101, 108]⟩ : ByteArray), (⟨#[109, 105, 110, 117, 115]⟩ : ByteArray), (⟨#[109, 111, 110, 101, 121]⟩ : ByteArray), (⟨#[110, 111, 116]⟩ : ByteArray), (⟨#[110, 117, 109, 98, 101, 114]⟩ : ByteArray), (⟨#[111, 102]⟩ : ByteArray), (⟨#[111, 114]⟩ : ByteArray), (⟨#[111, 118, 101, 114]⟩ : ByteArray), (⟨#[112, 108, 117, 115]⟩ : ByteArray), (⟨#[114, 111, 117, 110, 100]⟩ : ByteArray), (⟨#[115, 99, 97, 108, 101]⟩ : ByteArray), (⟨#[115, 104, 97, 114, 101]⟩ : ByteArray), (⟨#[115, 108, 105, 99, 101, 115]⟩ : ByteArray), (⟨#[116, 97, 98, 108, 101]⟩ : ByteArray), (⟨#[116, 104, 101, 110]⟩ : ByteArray), (⟨#[116, 105, 109, 101, 115]⟩ : ByteArray), (⟨#[116, 111]⟩ : ByteArray), (⟨#[116, 111, 116, 97, 108]⟩ : ByteArray), (⟨#[116, 114, 117, 101]⟩ : ByteArray), (⟨#[117, 112]⟩ : ByteArray), (⟨#[119, 101, 105, 103, 104, 116]⟩ : ByteArray), (⟨#[119, 104, 101, 110]⟩ : ByteArray), (⟨#[121, 101, 97, 114, 115]⟩ : ByteArray)] : List ByteArray))
theorem qE5.calls  (r : List ByteArray) (w : World) (h : qE5.f  = some r) :
  Calls Tryz.prog 109 #[] w fun e w' => ∃ v0_ : Value, e = .returned (v0_) ∧ Kd.R Kd.string 9 w' w.heap.size (fun _ => True) v0_ r ∧ Below w.heap.size w w' := by
 have HB := qA0.mk (Below.refl w.heap.size w)
 have H := h
 unfold qE5.f at H
 clear h
 obtain ⟨y113, hy_⟩ : ∃ y_ : List ByteArray, y_ = (([(⟨#[97, 99, 116]⟩ : ByteArray), (⟨#[97, 110, 100]⟩ : ByteArray), (⟨#[97, 114, 116, 105, 99, 108, 101]⟩ : ByteArray), (⟨#[97, 116, 45, 109, 111, 115, 116]⟩ : ByteArray), (⟨#[97, 116, 116, 114, 105, 98, 117, 116, 101]⟩ : ByteArray), (⟨#[98, 97, 115, 101]⟩ : ByteArray), (⟨#[98, 101, 108, 111, 119]⟩ : ByteArray), (⟨#[98, 111, 111, 108]⟩ : ByteArray), (⟨#[99, 111, 117, 110, 116]⟩ : ByteArray), (⟨#[100, 97, 116, 101]⟩ : ByteArray), (⟨#[100, 97, 121, 115]⟩ : ByteArray), (⟨#[100, 111, 119, 110]⟩ : ByteArray), (⟨#[101, 108, 115, 101]⟩ : ByteArray), (⟨#[101, 110, 97, 99, 116, 101, 100]⟩ : ByteArray), (⟨#[101, 113, 117, 97, 108, 115]⟩ : ByteArray), (⟨#[102, 97, 108, 115, 101]⟩ : ByteArray), (⟨#[102, 114, 111, 109]⟩ : ByteArray), (⟨#[103, 105, 118, 101, 115]⟩ : ByteArray), (⟨#[103, 114, 101, 97, 116, 101, 115, 116]⟩ : ByteArray), (⟨#[104, 97, 108, 102]⟩ : ByteArray), (⟨#[104, 97, 108, 102, 45, 111, 117, 116]⟩ : ByteArray), (⟨#[104, 97, 108, 102, 45, 116, 119, 111]⟩ : ByteArray), (⟨#[105, 102]⟩ : ByteArray), (⟨#[105, 110, 112, 117, 116]⟩ : ByteArray), (⟨#[105, 115]⟩ : ByteArray), (⟨#[108, 101, 97, 115, 116]⟩ : ByteArray), (⟨#[108, 101, 118, 101, 108]⟩ : ByteArray), (⟨#[109, 105, 110, 117, 115]⟩ : ByteArray), (⟨#[109, 111, 110, 101, 121]⟩ : ByteArray), (⟨#[110, 111, 116]⟩ : ByteArray), (⟨#[110, 117, 109, 98, 101, 114]⟩ : ByteArray), (⟨#[111, 102]⟩ : ByteArray), (⟨#[111, 114]⟩ : ByteArray), (⟨#[111, 118, 101, 114]⟩ : ByteArray), (⟨#[112, 108, 117, 115]⟩ : ByteArray), (⟨#[114, 111, 117, 110, 100]⟩ : ByteArray), (⟨#[115, 99, 97, 108, 101]⟩ : ByteArray), (⟨#[115, 104, 97, 114, 101]⟩ : ByteArray), (⟨#[115, 108, 105, 99, 101, 115]⟩ : ByteArray), (⟨#[116, 97, 98, 108, 101]⟩ : ByteArray), (⟨#[116, 104, 101, 110]⟩ : ByteArray), (⟨#[116, 105, 109, 101, 115]⟩ : ByteArray), (⟨#[116, 111]⟩ : ByteArray), (⟨#[116, 111, 116, 97, 108]⟩ : ByteArray), (⟨#[116, 114, 117, 101]⟩ : ByteArray), (⟨#[117, 112]⟩ : ByteArray), (⟨#[119, 101, 105, 103, 104, 116]⟩ : ByteArray), (⟨#[119, 104, 101, 110]⟩ : ByteArray), (⟨#[121, 101, 97, 114, 115]⟩ : ByteArray)] : List ByteArray)) := ⟨_, rfl⟩
 replace H : (some y113) = some r := zr
 have Ny113 := qA0.mk hy_
 clear hy_
 obtain rfl := Option.some.inj H
 go_enter Tryz.func109, Tryz.ntmps109
 go_wp2_with (((with_reducible refine qA9 (N := 1) rfl ?_); refine Kd.R_lit Kd.string _ 9 ?hg (N := 1) ?hd (xs := ([(⟨#[97, 99, 116]⟩ : ByteArray), (⟨#[97, 110, 100]⟩ : ByteArray), (⟨#[97, 114, 116, 105, 99, 108, 101]⟩ : ByteArray), (⟨#[97, 116, 45, 109, 111, 115, 116]⟩ : ByteArray), (⟨#[97, 116, 116, 114, 105, 98, 117, 116, 101]⟩ : ByteArray), (⟨#[98, 97, 115, 101]⟩ : ByteArray), (⟨#[98, 101, 108, 111, 119]⟩ : ByteArray), (⟨#[98, 111, 111, 108]⟩ : ByteArray), (⟨#[99, 111, 117, 110, 116]⟩ : ByteArray), (⟨#[100, 97, 116, 101]⟩ : ByteArray), (⟨#[100, 97, 121, 115]⟩ : ByteArray), (⟨#[100, 111, 119, 110]⟩ : ByteArray), (⟨#[101, 108, 115, 101]⟩ : ByteArray), (⟨#[101, 110, 97, 99, 116, 101, 100]⟩ : ByteArray), (⟨#[101, 113, 117, 97, 108, 115]⟩ : ByteArray), (⟨#[102, 97, 108, 115, 101]⟩ : ByteArray), (⟨#[102, 114, 111, 109]⟩ : ByteArray), (⟨#[103, 105, 118, 101, 115]⟩ : ByteArray), (⟨#[103, 114, 101, 97, 116, 101, 115, 116]⟩ : ByteArray), (⟨#[104, 97, 108, 102]⟩ : ByteArray), (⟨#[104, 97, 108, 102, 45, 111, 117, 116]⟩ : ByteArray), (⟨#[104, 97, 108, 102, 45, 116, 119, 111]⟩ : ByteArray), (⟨#[105, 102]⟩ : ByteArray), (⟨#[105, 110, 112, 117, 116]⟩ : ByteArray), (⟨#[105, 115]⟩ : ByteArray), (⟨#[108, 101, 97, 115, 116]⟩ : ByteArray), (⟨#[108, 101, 118, 101, 108]⟩ : ByteArray), (⟨#[109, 105, 110, 117, 115]⟩ : ByteArray), (⟨#[109, 111, 110, 101, 121]⟩ : ByteArray), (⟨#[110, 111, 116]⟩ : ByteArray), (⟨#[110, 117, 109, 98, 101, 114]⟩ : ByteArray), (⟨#[111, 102]⟩ : ByteArray), (⟨#[111, 114]⟩ : ByteArray), (⟨#[111, 118, 101, 114]⟩ : ByteArray), (⟨#[112, 108, 117, 115]⟩ : ByteArray), (⟨#[114, 111, 117, 110, 100]⟩ : ByteArray), (⟨#[115, 99, 97, 108, 101]⟩ : ByteArray), (⟨#[115, 104, 97, 114, 101]⟩ : ByteArray), (⟨#[115, 108, 105, 99, 101, 115]⟩ : ByteArray), (⟨#[116, 97, 98, 108, 101]⟩ : ByteArray), (⟨#[116, 104, 101, 110]⟩ : ByteArray), (⟨#[116, 105, 109, 101, 115]⟩ : ByteArray), (⟨#[116, 111]⟩ : ByteArray), (⟨#[116, 111, 116, 97, 108]⟩ : ByteArray), (⟨#[116, 114, 117, 101]⟩ : ByteArray), (⟨#[117, 112]⟩ : ByteArray), (⟨#[119, 101, 105, 103, 104, 116]⟩ : ByteArray), (⟨#[119, 104, 101, 110]⟩ : ByteArray), (⟨#[121, 101, 97, 114, 115]⟩ : ByteArray)] : List ByteArray)) (inner := [.string (⟨#[97, 99, 116]⟩ : ByteArray), .string (⟨#[97, 110, 100]⟩ : ByteArray), .string (⟨#[97, 114, 116, 105, 99, 108, 101]⟩ : ByteArray), .string (⟨#[97, 116, 45, 109, 111, 115, 116]⟩ : ByteArray), .string (⟨#[97, 116, 116, 114, 105, 98, 117, 116, 101]⟩ : ByteArray), .string (⟨#[98, 97, 115, 101]⟩ : ByteArray), .string (⟨#[98, 101, 108, 111, 119]⟩ : ByteArray), .string (⟨#[98, 111, 111, 108]⟩ : ByteArray), .string (⟨#[99, 111, 117, 110, 116]⟩ : ByteArray), .string (⟨#[100, 97, 116, 101]⟩ : ByteArray), .string (⟨#[100, 97, 121, 115]⟩ : ByteArray), .string (⟨#[100, 111, 119, 110]⟩ : ByteArray), .string (⟨#[101, 108, 115, 101]⟩ : ByteArray), .string (⟨#[101, 110, 97, 99, 116, 101, 100]⟩ : ByteArray), .string (⟨#[101, 113, 117, 97, 108, 115]⟩ : ByteArray), .string (⟨#[102, 97, 108, 115, 101]⟩ : ByteArray), .string (⟨#[102, 114, 111, 109]⟩ : ByteArray), .string (⟨#[103, 105, 118, 101, 115]⟩ : ByteArray), .string (⟨#[103, 114, 101, 97, 116, 101, 115, 116]⟩ : ByteArray), .string (⟨#[104, 97, 108, 102]⟩ : ByteArray), .string (⟨#[104, 97, 108, 102, 45, 111, 117, 116]⟩ : ByteArray), .string (⟨#[104, 97, 108, 102, 45, 116, 119, 111]⟩ : ByteArray), .string (⟨#[105, 102]⟩ : ByteArray), .string (⟨#[105, 110, 112, 117, 116]⟩ : ByteArray), .string (⟨#[105, 115]⟩ : ByteArray), .string (⟨#[108, 101, 97, 115, 116]⟩ : ByteArray), .string (⟨#[108, 101, 118, 101, 108]⟩ : ByteArray), .string (⟨#[109, 105, 110, 117, 115]⟩ : ByteArray), .string (⟨#[109, 111, 110, 101, 121]⟩ : ByteArray), .string (⟨#[110, 111, 116]⟩ : ByteArray), .string (⟨#[110, 117, 109, 98, 101, 114]⟩ : ByteArray), .string (⟨#[111, 102]⟩ : ByteArray), .string (⟨#[111, 114]⟩ : ByteArray), .string (⟨#[111, 118, 101, 114]⟩ : ByteArray), .string (⟨#[112, 108, 117, 115]⟩ : ByteArray), .string (⟨#[114, 111, 117, 110, 100]⟩ : ByteArray), .string (⟨#[115, 99, 97, 108, 101]⟩ : ByteArray), .string (⟨#[115, 104, 97, 114, 101]⟩ : ByteArray), .string (⟨#[115, 108, 105, 99, 101, 115]⟩ : ByteArray), .string (⟨#[116, 97, 98, 108, 101]⟩ : ByteArray), .string (⟨#[116, 104, 101, 110]⟩ : ByteArray), .string (⟨#[116, 105, 109, 101, 115]⟩ : ByteArray), .string (⟨#[116, 111]⟩ : ByteArray), .string (⟨#[116, 111, 116, 97, 108]⟩ : ByteArray), .string (⟨#[116, 114, 117, 101]⟩ : ByteArray), .string (⟨#[117, 112]⟩ : ByteArray), .string (⟨#[119, 101, 105, 103, 104, 116]⟩ : ByteArray), .string (⟨#[119, 104, 101, 110]⟩ : ByteArray), .string (⟨#[121, 101, 97, 114, 115]⟩ : ByteArray)]) (ok := fun _ => True) (okp := fun _ => True) ?hr ?hp (fun _ hk => hk) trivial (Below.refl _ _) (Nat.le_refl _) (by simp) ?_; (case hd => rfl); (case hg => rfl); (case hr => first | (go_simp; done) | (go_simp; rfl)); (case hp => exact (Reps.one (show Kd.M Kd.string _ _ _ (⟨#[97, 99, 116]⟩ : ByteArray) [.string (⟨#[97, 99, 116]⟩ : ByteArray)] from rfl) (Reps.one (show Kd.M Kd.string _ _ _ (⟨#[97, 110, 100]⟩ : ByteArray) [.string (⟨#[97, 110, 100]⟩ : ByteArray)] from rfl) (Reps.one (show Kd.M Kd.string _ _ _ (⟨#[97, 114, 116, 105, 99, 108, 101]⟩ : ByteArray) [.string (⟨#[97, 114, 116, 105, 99, 108, 101]⟩ : ByteArray)] from rfl) (Reps.one (show Kd.M Kd.string _ _ _ (⟨#[97, 116, 45, 109, 111, 115, 116]⟩ : ByteArray) [.string (⟨#[97, 116, 45, 109, 111, 115, 116]⟩ : ByteArray)] from rfl) (Reps.one (show Kd.M Kd.string _ _ _ (⟨#[97, 116, 116, 114, 105, 98, 117, 116, 101]⟩ : ByteArray) [.string (⟨#[97, 116, 116, 114, 105, 98, 117, 116, 101]⟩ : ByteArray)] from rfl) (Reps.one (show Kd.M Kd.string _ _ _ (⟨#[98, 97, 115, 101]⟩ : ByteArray) [.string (⟨#[98, 97, 115, 101]⟩ : ByteArray)] from rfl) (Reps.one (show Kd.M Kd.string _ _ _ (⟨#[98, 101, 108, 111, 119]⟩ : ByteArray) [.string (⟨#[98, 101, 108, 111, 119]⟩ : ByteArray)] from rfl) (Reps.one (show Kd.M Kd.string _ _ _ (⟨#[98, 111, 111, 108]⟩ : ByteArray) [.string (⟨#[98, 111, 111, 108]⟩ : ByteArray)] from rfl) (Reps.one (show Kd.M Kd.string _ _ _ (⟨#[99, 111, 117, 110, 116]⟩ : ByteArray) [.string (⟨#[99, 111, 117, 110, 116]⟩ : ByteArray)] from rfl) (Reps.one (show Kd.M Kd.string _ _ _ (⟨#[100, 97, 116, 101]⟩ : ByteArray) [.string (⟨#[100, 97, 116, 101]⟩ : ByteArray)] from rfl) (Reps.one (show Kd.M Kd.string _ _ _ (⟨#[100, 97, 121, 115]⟩ : ByteArray) [.string (⟨#[100, 97, 121, 115]⟩ : ByteArray)] from rfl) (Reps.one (show Kd.M Kd.string _ _ _ (⟨#[100, 111, 119, 110]⟩ : ByteArray) [.string (⟨#[100, 111, 119, 110]⟩ : ByteArray)] from rfl) (Reps.one (show Kd.M Kd.string _ _ _ (⟨#[101, 108, 115, 101]⟩ : ByteArray) [.string (⟨#[101, 108, 115, 101]⟩ : ByteArray)] from rfl) (Reps.one (show Kd.M Kd.string _ _ _ (⟨#[101, 110, 97, 99, 116, 101, 100]⟩ : ByteArray) [.string (⟨#[101, 110, 97, 99, 116, 101, 100]⟩ : ByteArray)] from rfl) (Reps.one (show Kd.M Kd.string _ _ _ (⟨#[101, 113, 117, 97, 108, 115]⟩ : ByteArray) [.string (⟨#[101, 113, 117, 97, 108, 115]⟩ : ByteArray)] from rfl) (Reps.one (show Kd.M Kd.string _ _ _ (⟨#[102, 97, 108, 115, 101]⟩ : ByteArray) [.string (⟨#[102, 97, 108, 115, 101]⟩ : ByteArray)] from rfl) (Reps.one (show Kd.M Kd.string _ _ _ (⟨#[102, 114, 111, 109]⟩ : ByteArray) [.string (⟨#[102, 114, 111, 109]⟩ : ByteArray)] from rfl) (Reps.one (show Kd.M Kd.string _ _ _ (⟨#[103, 105, 118, 101, 115]⟩ : ByteArray) [.string (⟨#[103, 105, 118, 101, 115]⟩ : ByteArray)] from rfl) (Reps.one (show Kd.M Kd.string _ _ _ (⟨#[103, 114, 101, 97, 116, 101, 115, 116]⟩ : ByteArray) [.string (⟨#[103, 114, 101, 97, 116, 101, 115, 116]⟩ : ByteArray)] from rfl) (Reps.one (show Kd.M Kd.string _ _ _ (⟨#[104, 97, 108, 102]⟩ : ByteArray) [.string (⟨#[104, 97, 108, 102]⟩ : ByteArray)] from rfl) (Reps.one (show Kd.M Kd.string _ _ _ (⟨#[104, 97, 108, 102, 45, 111, 117, 116]⟩ : ByteArray) [.string (⟨#[104, 97, 108, 102, 45, 111, 117, 116]⟩ : ByteArray)] from rfl) (Reps.one (show Kd.M Kd.string _ _ _ (⟨#[104, 97, 108, 102, 45, 116, 119, 111]⟩ : ByteArray) [.string (⟨#[104, 97, 108, 102, 45, 116, 119, 111]⟩ : ByteArray)] from rfl) (Reps.one (show Kd.M Kd.string _ _ _ (⟨#[105, 102]⟩ : ByteArray) [.string (⟨#[105, 102]⟩ : ByteArray)] from rfl) (Reps.one (show Kd.M Kd.string _ _ _ (⟨#[105, 110, 112, 117, 116]⟩ : ByteArray) [.string (⟨#[105, 110, 112, 117, 116]⟩ : ByteArray)] from rfl) (Reps.one (show Kd.M Kd.string _ _ _ (⟨#[105, 115]⟩ : ByteArray) [.string (⟨#[105, 115]⟩ : ByteArray)] from rfl) (Reps.one (show Kd.M Kd.string _ _ _ (⟨#[108, 101, 97, 115, 116]⟩ : ByteArray) [.string (⟨#[108, 101, 97, 115, 116]⟩ : ByteArray)] from rfl) (Reps.one (show Kd.M Kd.string _ _ _ (⟨#[108, 101, 118, 101, 108]⟩ : ByteArray) [.string (⟨#[108, 101, 118, 101, 108]⟩ : ByteArray)] from rfl) (Reps.one (show Kd.M Kd.string _ _ _ (⟨#[109, 105, 110, 117, 115]⟩ : ByteArray) [.string (⟨#[109, 105, 110, 117, 115]⟩ : ByteArray)] from rfl) (Reps.one (show Kd.M Kd.string _ _ _ (⟨#[109, 111, 110, 101, 121]⟩ : ByteArray) [.string (⟨#[109, 111, 110, 101, 121]⟩ : ByteArray)] from rfl) (Reps.one (show Kd.M Kd.string _ _ _ (⟨#[110, 111, 116]⟩ : ByteArray) [.string (⟨#[110, 111, 116]⟩ : ByteArray)] from rfl) (Reps.one (show Kd.M Kd.string _ _ _ (⟨#[110, 117, 109, 98, 101, 114]⟩ : ByteArray) [.string (⟨#[110, 117, 109, 98, 101, 114]⟩ : ByteArray)] from rfl) (Reps.one (show Kd.M Kd.string _ _ _ (⟨#[111, 102]⟩ : ByteArray) [.string (⟨#[111, 102]⟩ : ByteArray)] from rfl) (Reps.one (show Kd.M Kd.string _ _ _ (⟨#[111, 114]⟩ : ByteArray) [.string (⟨#[111, 114]⟩ : ByteArray)] from rfl) (Reps.one (show Kd.M Kd.string _ _ _ (⟨#[111, 118, 101, 114]⟩ : ByteArray) [.string (⟨#[111, 118, 101, 114]⟩ : ByteArray)] from rfl) (Reps.one (show Kd.M Kd.string _ _ _ (⟨#[112, 108, 117, 115]⟩ : ByteArray) [.string (⟨#[112, 108, 117, 115]⟩ : ByteArray)] from rfl) (Reps.one (show Kd.M Kd.string _ _ _ (⟨#[114, 111, 117, 110, 100]⟩ : ByteArray) [.string (⟨#[114, 111, 117, 110, 100]⟩ : ByteArray)] from rfl) (Reps.one (show Kd.M Kd.string _ _ _ (⟨#[115, 99, 97, 108, 101]⟩ : ByteArray) [.string (⟨#[115, 99, 97, 108, 101]⟩ : ByteArray)] from rfl) (Reps.one (show Kd.M Kd.string _ _ _ (⟨#[115, 104, 97, 114, 101]⟩ : ByteArray) [.string (⟨#[115, 104, 97, 114, 101]⟩ : ByteArray)] from rfl) (Reps.one (show Kd.M Kd.string _ _ _ (⟨#[115, 108, 105, 99, 101, 115]⟩ : ByteArray) [.string (⟨#[115, 108, 105, 99, 101, 115]⟩ : ByteArray)] from rfl) (Reps.one (show Kd.M Kd.string _ _ _ (⟨#[116, 97, 98, 108, 101]⟩ : ByteArray) [.string (⟨#[116, 97, 98, 108, 101]⟩ : ByteArray)] from rfl) (Reps.one (show Kd.M Kd.string _ _ _ (⟨#[116, 104, 101, 110]⟩ : ByteArray) [.string (⟨#[116, 104, 101, 110]⟩ : ByteArray)] from rfl) (Reps.one (show Kd.M Kd.string _ _ _ (⟨#[116, 105, 109, 101, 115]⟩ : ByteArray) [.string (⟨#[116, 105, 109, 101, 115]⟩ : ByteArray)] from rfl) (Reps.one (show Kd.M Kd.string _ _ _ (⟨#[116, 111]⟩ : ByteArray) [.string (⟨#[116, 111]⟩ : ByteArray)] from rfl) (Reps.one (show Kd.M Kd.string _ _ _ (⟨#[116, 111, 116, 97, 108]⟩ : ByteArray) [.string (⟨#[116, 111, 116, 97, 108]⟩ : ByteArray)] from rfl) (Reps.one (show Kd.M Kd.string _ _ _ (⟨#[116, 114, 117, 101]⟩ : ByteArray) [.string (⟨#[116, 114, 117, 101]⟩ : ByteArray)] from rfl) (Reps.one (show Kd.M Kd.string _ _ _ (⟨#[117, 112]⟩ : ByteArray) [.string (⟨#[117, 112]⟩ : ByteArray)] from rfl) (Reps.one (show Kd.M Kd.string _ _ _ (⟨#[119, 101, 105, 103, 104, 116]⟩ : ByteArray) [.string (⟨#[119, 101, 105, 103, 104, 116]⟩ : ByteArray)] from rfl) (Reps.one (show Kd.M Kd.string _ _ _ (⟨#[119, 104, 101, 110]⟩ : ByteArray) [.string (⟨#[119, 104, 101, 110]⟩ : ByteArray)] from rfl) (Reps.one (show Kd.M Kd.string _ _ _ (⟨#[121, 101, 97, 114, 115]⟩ : ByteArray) [.string (⟨#[121, 101, 97, 114, 115]⟩ : ByteArray)] from rfl) (Reps.none _ _))))))))))))))))))))))))))))))))))))))))))))))))))); intro v114 w1 ho2 hb hg_ hnew_; clear hg_ hnew_; (first | rw [← Ny113.out] at ho2 | (simp only [Int.reduceToNat] at ho2; rw [← Ny113.out] at ho2)); have HO115 := qA0.mk (Kd.qCI ho2 (qAI zb)); replace HB := zB hb; clear hb ho2))
 go_ret
 exact ⟨_, zf, by (with_reducible repeat refine sR ?_); exact HO115.out, zb⟩
mutual
def qBE.j0 : Nat → ByteArray → Bool → Option (Bool)
 | 0, _, _ => none
 | k + 1, x0, x18 => if x18 = true then (some false) else (qBE.l0 k x0 (x0.size : Int) 0)
def qBE.l0 : Nat → ByteArray → Int → Int → Option (Bool)
 | 0, _, _, _ => none
 | k + 1, x0, x20, x21 => if x21 < x20 then (if 0 ≤ x21 then (if x21 < (x0.size : Int) then ((qDU.f (bt x0 x21)).bind fun t117 => (if t117 = true then (qBE.l0 k x0 x20 (wrap64 (x21 + 1))) else (some false))) else (none)) else (none)) else ((qE5.f).bind fun t118 => ((qA4.f k t118 x0).bind fun bt121 => (some (!bt121.2))))
end
def qBE.f (k : Nat) (a0 : ByteArray) : Option (Bool) := if a0.toList = ([] : List UInt8) then (qBE.j0 k a0 true) else (if (a0.size : Int) > 20 then (qBE.j0 k a0 true) else (if 0 < (a0.size : Int) then ((qCL.f (bt a0 0)).bind fun t116 => (qBE.j0 k a0 (!t116))) else (none)))
theorem qBE.calls (k : Nat) (a0 : ByteArray) (r : Bool) (w : World) (h : qBE.f k a0 = some r) :
  Calls Tryz.prog 74 #[.string a0] w fun e w' => e = .returned (.bool r) ∧ Below w.heap.size w w' := by
 have HB := qA0.mk (Below.refl w.heap.size w)
 have H := h
 unfold qBE.f at H
 clear h
 have HC2 := qA0.mk H
 clear H
 go_enter Tryz.func74, Tryz.ntmps74
 go_upto_region 1 with (fail)
 go_cut [18] (fun v18 wc => ∃ (kq : Nat) (x18_1 : Bool), v18 = .bool x18_1 ∧ qA0 (qBE.j0 kq a0 x18_1 = some r) ∧ qA0 (kq ≤ k) ∧ qA0 (Below w.heap.size w wc))
 case first =>
  have H := HC2.out
  clear HC2
  by_cases c3 : a0.toList = ([] : List UInt8)
  ·rw [if_pos c3] at H
   have ⟨c3b0, c3b1⟩ := ze c3
   clear c3
   (first | rw [c3b0] | (simp only [qC9, qCB]; rw [c3b0]) | skip)
   have H' := qA0.mk H
   clear H
   go_wp2
   go_meet
   case rel => exact ⟨_, (true), zs, H', ⟨by first | omega | exact Nat.le_refl _⟩, ⟨zb⟩⟩
  rw [if_neg c3] at H
  have ⟨c3b0, c3b1⟩ := zn c3
  (first | rw [c3b0] | (simp only [qC9, qCB]; rw [c3b0]) | skip)
  by_cases c4 : (a0.size : Int) > 20
  ·rw [if_pos c4] at H
   have c4b0 := decide_eq_true c4
   have c4b1 : decide (20 < a0.size) = true := decide_eq_true (by omega)
   clear c4
   have H' := qA0.mk H
   clear H
   go_wp2
   go_meet
   case rel => exact ⟨_, (true), zs, H', ⟨by first | omega | exact Nat.le_refl _⟩, ⟨zb⟩⟩
  rw [if_neg c4] at H
  have c4b0 := decide_eq_false c4
  have c4b1 : decide (20 < a0.size) = false := decide_eq_false (by omega)
  clear c4
  by_cases c5 : 0 < (a0.size : Int)
  rotate_left
  ·rw [if_neg c5] at H
   cases H
  rw [if_pos c5] at H
  have c5b0 := decide_eq_true c5
  have c5b1 : decide (0 < a0.size) = true := decide_eq_true (by omega)
  clear c5
  replace H := zi H
  obtain ⟨t116, A70, H⟩ := H
  have A7 := qA0.mk A70
  clear A70
  have H' := qA0.mk H
  clear H
  have p6 : 0 ≤ (0 : Int) := (by omega)
  have q6 : 0 < a0.size := (by have : (0 : Int) < (a0.size : Int) := zd; omega)
  have hx6 : ∀ h : 0 < a0.size, ((a0[0]'h).toNat : Int) = bt a0 0 := bt_at a0 0
  clear p6
  have qi6 : (0 < (a0.size : Int)) = True := eq_true (zd)
  replace q6 := eq_true q6
  go_wp2_with ((go_at_call 106; (with_reducible refine (qCL.calls (bt a0 0) t116 _ A7.out).mono ?_); rintro e w' ⟨rfl, ⟨nd, rfl⟩⟩))
  go_meet
  case rel => exact ⟨_, (!t116), zs, H', ⟨by first | omega | exact Nat.le_refl _⟩, ⟨zb⟩⟩
 clear HC2
 obtain ⟨kq, x18_1, rfl, HA, HJ1, HB⟩ := hcut
 obtain _ | kj1 := kq
 ·exact absurd HA.out (by simp [qBE.j0])
 have H := HA.out
 clear HA
 simp only [qBE.j0] at H
 by_cases c8 : x18_1 = true
 ·subst c8
  rw [if_pos rfl] at H
  obtain rfl := Option.some.inj H
  go_wp2
  go_ret
  exact ⟨zf, zb⟩
 replace c8 := Bool.eq_false_iff.mpr c8
 subst c8
 rw [zj] at H
 have H' := qA0.mk H
 clear H
 go_wp2
 go_loopg [21] kj1 (fun kq v21 w' => ∃ (x21_2 : Int), v21 = .int .i64 x21_2 ∧ qA0 (qBE.l0 kq a0 (a0.size : Int) x21_2 = some r) ∧ qA0 (kq ≤ kj1) ∧ qA0 (Below w.heap.size w w'))
 case atStart => exact ⟨(0), zs, H', ⟨Nat.le_refl _⟩, ⟨zb⟩⟩
 clear H'
 obtain ⟨x21_2, rfl, HA, HK2, HB⟩ := hrel
 obtain _ | k2 := gk
 ·exact absurd HA.out (by simp [qBE.l0])
 have H := HA.out
 clear HA
 simp only [qBE.l0] at H
 by_cases c9 : x21_2 < (a0.size : Int)
 rotate_left
 ·rw [if_neg c9] at H
  have c9b0 := decide_eq_false c9
  clear c9
  replace H := zi H
  obtain ⟨t118, A150, H⟩ := H
  have A15 := qA0.mk A150
  clear A150
  replace H := zi H
  obtain ⟨⟨t121, t122⟩, A160, H⟩ := H
  replace H : (some (!t122)) = some r := H
  have A16 := qA0.mk A160
  clear A160
  obtain rfl := Option.some.inj H
  go_wp2_with (first | ((with_reducible refine qA6 (f := 109) rfl ?_); refine qBP (some 31) Tryz.func109 #[] ?_; (with_reducible refine (qE5.calls  t118 _ A15.out).mono ?_); rintro e w17 ⟨v119, rfl, ho0, hb⟩; refine ⟨_, rfl, ?_⟩; have HO120 := qA0.mk (Kd.qCI ho0 (qAI zb)); replace HB := zB hb; (try clear hb hk); (try clear hb); (try clear ho0); obtain ⟨Ao18, co18, eo18⟩ := Kd.qBV HO120.out; subst eo18) | ((with_reducible refine qA6 (f := 108) rfl ?_); refine qBP (some 33) Tryz.func108 #[.slice Ao18 t118.length co18, .string a0] ?_; (with_reducible refine (qA4.calls k2 _ _ t118 a0 t121 t122 _ ?side1 ?side2 A16.out).mono ?_); (case side1 => repeat (first | exact (Kd.qB3 HO120.out).2.2 | refine sC ?_)); (case side2 => exact (Kd.qB3 HO120.out).2.1); rintro e w' ⟨rfl, ⟨nd, rfl⟩⟩; refine ⟨_, rfl, ?_⟩))
  go_ret
  exact ⟨zf, zb⟩
 rw [if_pos c9] at H
 have c9b0 := decide_eq_true c9
 clear c9
 by_cases c10 : 0 ≤ x21_2
 rotate_left
 ·rw [if_neg c10] at H
  cases H
 rw [if_pos c10] at H
 have c10b0 := decide_eq_true c10
 clear c10
 by_cases c11 : x21_2 < (a0.size : Int)
 rotate_left
 ·rw [if_neg c11] at H
  cases H
 rw [if_pos c11] at H
 have c11b0 := decide_eq_true c11
 clear c11
 replace H := zi H
 obtain ⟨t117, A130, H⟩ := H
 have A13 := qA0.mk A130
 clear A130
 by_cases c14 : t117 = true
 rotate_left
 ·replace c14 := Bool.eq_false_iff.mpr c14
  subst c14
  rw [zj] at H
  obtain rfl := Option.some.inj H
  have p12 : 0 ≤ (x21_2 : Int) := zd
  have q12 : x21_2 < (a0.size : Int) := zd
  have hx12 := bt_at a0 x21_2
  replace p12 := eq_true p12
  replace q12 := eq_true q12
  go_wp2_with (((with_reducible refine qA6 (f := 107) rfl ?_); refine qBP (some 27) Tryz.func107 #[.int .u8 (bt a0 x21_2)] ?_; (with_reducible refine (qDU.calls (bt a0 x21_2) false _ A13.out).mono ?_); rintro e w' ⟨rfl, ⟨nd, rfl⟩⟩; refine ⟨_, rfl, ?_⟩))
  go_ret
  exact ⟨zf, zb⟩
 subst c14
 rw [if_pos rfl] at H
 have H' := qA0.mk H
 clear H
 have p12 : 0 ≤ (x21_2 : Int) := zd
 have q12 : x21_2 < (a0.size : Int) := zd
 have hx12 := bt_at a0 x21_2
 replace p12 := eq_true p12
 replace q12 := eq_true q12
 go_wp2_with (((with_reducible refine qA6 (f := 107) rfl ?_); refine qBP (some 27) Tryz.func107 #[.int .u8 (bt a0 x21_2)] ?_; (with_reducible refine (qDU.calls (bt a0 x21_2) true _ A13.out).mono ?_); rintro e w' ⟨rfl, ⟨nd, rfl⟩⟩; refine ⟨_, rfl, ?_⟩))
 go_roundg k2
 case measure => have := HJ1.out; have := HK2.out; omega
 case rel => exact ⟨(wrap64 (x21_2 + 1)), zs, H', ⟨by have := HJ1.out; have := HK2.out; omega⟩, ⟨zb⟩⟩
theorem less_ev (a b : ByteArray) : cmp_Less_string.f a b = some (Op.bytesLess a.toList b.toList) := by
 simp [cmp_Less_string.f, cmp_isNaN_string.f]
theorem half_w {i j : Nat} (h : i + j ≤ 1000000) : wrap64 ((IntKind.u64.wrap (wrap64 ((i : Int) + (j : Int)))) / 2) = (((i + j) / 2 : Nat) : Int) := by
 have e : wrap64 ((i : Int) + (j : Int)) = ((i + j : Nat) : Int) := by unfold wrap64; omega
 rw [e]
 have e2 : IntKind.u64.wrap ((i + j : Nat) : Int) = ((i + j : Nat) : Int) := IntWalk.u64_in _ (by omega)
 rw [e2]
 unfold wrap64
 omega
theorem bs_ev (keys : List ByteArray) (x : ByteArray) (hl : keys.length ≤ 1000) : ∀ (d i j : Nat), i ≤ j → j ≤ keys.length → j - i ≤ d → ∃ r, ∀ k, d < k → qA4.l0 k keys x (keys.length : Int) (i : Int) (j : Int) = some r := by
 intro d
 induction d with
 | zero =>
  intro i j h1 h2 h3
  obtain rfl : i = j := by omega
  by_cases h4 : i < keys.length
  rotate_left
  ·refine ⟨((i : Int), false), fun k hk => ?_⟩
   obtain ⟨k, rfl⟩ : ∃ m, k = m + 1 := ⟨k - 1, by omega⟩
   simp only [qA4.l0]
   rw [if_neg (by omega), if_neg (by omega)]
  by_cases h5 : (rdOf ByteArray.empty keys (i : Int)).toList = x.toList
  ·refine ⟨((i : Int), true), fun k hk => ?_⟩
   obtain ⟨k, rfl⟩ : ∃ m, k = m + 1 := ⟨k - 1, by omega⟩
   simp only [qA4.l0]
   rw [if_neg (by omega), if_pos (by omega), if_pos (by omega), if_pos (by omega), if_pos h5]
  refine ⟨((i : Int), false), fun k hk => ?_⟩
  obtain ⟨k, rfl⟩ : ∃ m, k = m + 1 := ⟨k - 1, by omega⟩
  simp only [qA4.l0]
  rw [if_neg (by omega), if_pos (by omega), if_pos (by omega), if_pos (by omega), if_neg h5]
  simp [slices_isNaN_string.f]
 | succ d ih =>
  intro i j h1 h2 h3
  by_cases h4 : i < j
  rotate_left
  ·obtain ⟨r, hr⟩ := ih i j h1 h2 (by omega)
   exact ⟨r, fun k hk => hr k (by omega)⟩
  have hw := half_w (i := i) (j := j) (by omega)
  have hm1 : i ≤ (i + j) / 2 := by omega
  have hm2 : (i + j) / 2 < j := by omega
  by_cases h5 : Op.bytesLess (rdOf ByteArray.empty keys (((i + j) / 2 : Nat) : Int)).toList x.toList = true
  rotate_left
  ·obtain ⟨r, hr⟩ := ih i ((i + j) / 2) (by omega) (by omega) (by omega)
   refine ⟨r, fun k hk => ?_⟩
   obtain ⟨k, rfl⟩ : ∃ m, k = m + 1 := ⟨k - 1, by omega⟩
   simp only [qA4.l0]
   rw [if_pos (by omega), hw, if_pos (by omega), if_pos (by omega), less_ev, Option.bind_some, if_neg h5]
   exact hr k (by omega)
  obtain ⟨r, hr⟩ := ih ((i + j) / 2 + 1) j (by omega) h2 (by omega)
  refine ⟨r, fun k hk => ?_⟩
  obtain ⟨k, rfl⟩ : ∃ m, k = m + 1 := ⟨k - 1, by omega⟩
  simp only [qA4.l0]
  rw [if_pos (by omega), hw, if_pos (by omega), if_pos (by omega), less_ev, Option.bind_some, if_pos h5]
  rw [show wrap64 ((((i + j) / 2 : Nat) : Int) + 1) = (((i + j) / 2 + 1 : Nat) : Int) from by unfold wrap64; omega]
  exact hr k (by omega)
theorem inner_ev (c : Int) : ∃ b, qDU.f c = some b := by
 unfold qDU.f qCL.f qE9.f
 by_cases h1 : c ≥ 97 <;> by_cases h2 : c ≥ 48 <;> by_cases h3 : c ≤ 122 <;> by_cases h4 : c ≤ 57 <;> simp [h1, h2, h3, h4]
theorem name_l (s : ByteArray) (hs : s.size ≤ 20) : ∀ (d i : Nat), i ≤ s.size → s.size - i ≤ d → ∃ r, ∀ k, d + 60 < k → qBE.l0 k s (s.size : Int) (i : Int) = some r := by
 intro d
 induction d with
 | zero =>
  intro i h1 h2
  obtain rfl : i = s.size := by omega
  have hk : qE5.f = some ((qE5.f).getD []) := rfl
  have hl : ((qE5.f).getD []).length = 49 := rfl
  generalize (qE5.f).getD [] = keys at hk hl
  obtain ⟨r, hr⟩ := bs_ev keys s (by omega) 49 0 keys.length (by omega) (by omega) (by omega)
  refine ⟨!r.2, fun k hk' => ?_⟩
  obtain ⟨k, rfl⟩ : ∃ m, k = m + 1 := ⟨k - 1, by omega⟩
  simp only [qBE.l0]
  rw [if_neg (by omega), hk, Option.bind_some]
  unfold qA4.f
  have := hr k (by omega)
  simp only [Int.natCast_zero] at this
  rw [this, Option.bind_some]
 | succ d ih =>
  intro i h1 h2
  by_cases h3 : i < s.size
  rotate_left
  ·obtain ⟨r, hr⟩ := ih i h1 (by omega)
   exact ⟨r, fun k hk => hr k (by omega)⟩
  obtain ⟨b, hb⟩ := inner_ev (bt s (i : Int))
  cases b
  ·refine ⟨false, fun k hk => ?_⟩
   obtain ⟨k, rfl⟩ : ∃ m, k = m + 1 := ⟨k - 1, by omega⟩
   simp only [qBE.l0]
   rw [if_pos (by omega), if_pos (by omega), if_pos (by omega), hb]
   rfl
  ·obtain ⟨r, hr⟩ := ih (i + 1) (by omega) (by omega)
   refine ⟨r, fun k hk => ?_⟩
   obtain ⟨k, rfl⟩ : ∃ m, k = m + 1 := ⟨k - 1, by omega⟩
   simp only [qBE.l0]
   rw [if_pos (by omega), if_pos (by omega), if_pos (by omega), hb, Option.bind_some, if_pos rfl]
   rw [show wrap64 ((i : Int) + 1) = ((i + 1 : Nat) : Int) from by unfold wrap64; omega]
   exact hr k (by omega)
def nameB (s : ByteArray) : Bool := (qBE.f 200 s).getD false
theorem name_some (s : ByteArray) : ∃ r, qBE.f 200 s = some r := by
 by_cases h1 : s.toList = []
 ·refine ⟨false, ?_⟩
  unfold qBE.f
  rw [if_pos h1]
  rfl
 by_cases h2 : (s.size : Int) > 20
 ·refine ⟨false, ?_⟩
  unfold qBE.f
  rw [if_neg h1, if_pos h2]
  rfl
 have h3 : 0 < (s.size : Int) := by
  rcases Nat.eq_zero_or_pos s.size with e | e
  ·exfalso
   apply h1
   have e2 : s = ⟨#[]⟩ := by
    cases s with
    | mk d => have : d.size = 0 := e; rw [Array.size_eq_zero_iff] at this; rw [this]
   rw [e2]; simp [ByteArray.toList, ByteArray.toList.loop, ByteArray.size]
  ·omega
 obtain ⟨r, hr⟩ := name_l s (by omega) s.size 0 (by omega) (by omega)
 by_cases h4 : qCL.f (bt s 0) = some true
 ·refine ⟨r, ?_⟩
  unfold qBE.f
  rw [if_neg h1, if_neg h2, if_pos h3, h4, Option.bind_some]
  simp only [qBE.j0, Bool.not_true]
  rw [if_neg (by decide)]
  exact hr _ (by omega)
 refine ⟨false, ?_⟩
 have h5 : qCL.f (bt s 0) = some false := by
  unfold qCL.f at h4 ⊢
  by_cases h6 : bt s 0 ≥ 97
  rotate_left
  ·rw [if_neg h6]
  rw [if_pos h6] at h4 ⊢
  by_cases h7 : bt s 0 ≤ 122
  rotate_left
  ·simp [h7]
  exact absurd (by simp [h7]) h4
 unfold qBE.f
 rw [if_neg h1, if_neg h2, if_pos h3, h5]
 rfl
theorem name_ev (s : ByteArray) : qBE.f 200 s = some (nameB s) := by
 obtain ⟨r, h⟩ := name_some s
 unfold nameB
 rw [h]
 rfl
theorem nameB_size {s : ByteArray} (h : nameB s = true) : s.size ≤ 20 := by
 have hk := name_ev s
 rw [h] at hk
 rcases Nat.lt_or_ge 20 s.size with hs | hs
 ·exfalso
  have hj : qBE.j0 200 s true = some true := by
   unfold qBE.f at hk
   by_cases h1 : s.toList = []
   rotate_left
   ·rwa [if_neg h1, if_pos (by omega)] at hk
   rwa [if_pos h1] at hk
  simp [qBE.j0] at hj
 ·exact hs
structure Names (w : World) (b : Nat) (L : List ByteArray) : Prop where
 own : ∃ n D, n ≤ L.length ∧ w.ownsMap (H := Unit) Tryz.prog 9 (plainElem Tryz.prog 4) b n D ∧ ∀ s : ByteArray, D.atKey (.string s.data.toList) (.lit (.bool false)) = .lit (.bool (decide (s ∈ L)))
theorem keyed9 : Maps.Keyed Tryz.prog 9 := Maps.string_keyed Tryz.underlying9
theorem bool_of {v : Value} {x : Bool} {ps : List MemPlace} (h : plainElem (H := Unit) Tryz.prog 4 v = some (.lit (.bool x), ps)) : v = .bool x := by
 unfold plainElem at h
 rw [Tryz.underlying4] at h
 cases v <;> simp at h
 rw [h.1]
theorem Names.look {w : World} {b : Nat} {L : List ByteArray} (h : Names w b L) {s : ByteArray} (hs : s.size ≤ maxLen) : (Instr.lookup 110 (.map (some b)) (.string s) false).run Tryz.prog w = .ok (.bool (decide (s ∈ L))) w := by
 obtain ⟨n, D, _, own, at_⟩ := h.own
 obtain ⟨v, ps, hrun, hR⟩ := own.lookup keyed9 Tryz.underlying110 (z := .bool false) (Tryz.zeroValue4 w) (zd := .lit (.bool false)) (zp := []) (plainElem_bool Tryz.underlying4 false) (WideMaps.keyOf_string_mk Tryz.underlying9 hs)
 rw [at_] at hR
 rw [hrun, bool_of hR]
theorem str_inj {s t : ByteArray} (h : s.data.toList = t.data.toList) : s = t := by
 cases s; cases t
 simp at h
 rw [h]
theorem Names.put {w : World} {b : Nat} {L : List ByteArray} (h : Names w b L) (hl : L.length < maxLen) {s : ByteArray} (hs : s.size ≤ maxLen) :
  ∃ w2, (Instr.mapUpdate 110 (.map (some b)) (.string s) (.bool true)).run Tryz.prog w = .ok () w2 ∧ Names w2 b (s :: L) ∧ w.grownBy w2 (some b) := by
 obtain ⟨n, D, hn, own, at_⟩ := h.own
 obtain ⟨w2, hrun, ho, hg⟩ := own.update keyed9 Tryz.underlying110 (Nat.lt_of_le_of_lt hn hl) (WideMaps.keyOf_string_mk Tryz.underlying9 hs) (val := .bool true) (d := .lit (.bool true)) (ps := []) (plainElem_bool Tryz.underlying4 true)
 refine ⟨w2, hrun, ⟨n + 1, _, by simp; omega, ho, fun t => ?_⟩, hg⟩
 by_cases e : t = s
 ·subst e
  rw [Maps.atKey_put_same own.isMap (show WideAt.IsKeyLit (.string t.data.toList) from trivial)]
  simp
 ·rw [Maps.atKey_put_other (fun e' => e (str_inj (by injection e'))), at_]
  simp [e]
theorem Names.lt {w : World} {b : Nat} {L : List ByteArray} (h : Names w b L) : b < w.heap.size := by
 obtain ⟨n, D, _, own, _⟩ := h.own
 exact own.lt
theorem Names.kept {w w' : World} {b : Nat} {L : List ByteArray} {row : Option Nat} (h : Names w b L) (hg : w.grownBy w' row) (hne : some b ≠ row) : Names w' b L := by
 obtain ⟨n, D, hn, own, at_⟩ := h.own
 exact ⟨n, D, hn, own.kept hg hne, at_⟩
theorem Names.below {w w' : World} {b : Nat} {L : List ByteArray} (h : Names w b L) (hB : Below w.heap.size w w') : Names w' b L := h.kept (row := none) (qB9 hB none) (by simp)
theorem Names.made (w : World) : Names (w.alloc (.map #[] 0)) w.heap.size [] := ⟨0, _, Nat.le_refl _, World.ownsMap_made w _ _ _, fun s => rfl⟩
def addR (L : List ByteArray) (s : ByteArray) : Int := if nameB s = true then (if s ∈ L then 5 else 0) else 15
theorem names_add.walk (b : Nat) (L : List ByteArray) (s : ByteArray) (w : World) (hN : Names w b L) (hl : L.length < maxLen) :
  Calls Tryz.prog 49 #[.map (some b), .string s] w fun e w' => e = .returned (.int .i64 (addR L s)) ∧ Names w' b (if addR L s = 0 then s :: L else L) ∧ w.grownBy w' (some b) := by
 have hk := name_ev s
 have HN := qA0.mk hN
 have HL := qA0.mk hl
 clear hN hl
 cases hn : nameB s with
 | false =>
  have ha : addR L s = 15 := by unfold addR; rw [hn]; rfl
  rw [ha]
  rw [hn] at hk
  have HK := qA0.mk hk
  clear hk hn ha
  go_enter Tryz.func49, Tryz.ntmps49
  go_wp2_with fail
  refine (qBE.calls 200 s false _ HK.out).mono ?_
  rintro e w1 ⟨rfl, hb⟩
  have HB := qA0.mk hb
  clear hb
  go_wp2_with fail
  go_ret
  exact ⟨rfl, by simpa using HN.out.below HB.out, qB9 HB.out _⟩
 | true =>
  have hs := nameB_size hn
  rw [hn] at hk
  have HK := qA0.mk hk
  by_cases hm : s ∈ L
  ·have ha : addR L s = 5 := by unfold addR; rw [hn, if_pos rfl, if_pos hm]
   rw [ha]
   have HM := qA0.mk hm
   clear hk hn ha hm
   go_enter Tryz.func49, Tryz.ntmps49
   go_wp2_with fail
   refine (qBE.calls 200 s true _ HK.out).mono ?_
   rintro e w1 ⟨rfl, hb⟩
   have HB := qA0.mk hb
   have hlk := (HN.out.below hb).look (s := s) (by simp only [maxLen]; omega)
   rw [decide_eq_true HM.out] at hlk
   clear hb
   go_wp2_with fail
   go_ret
   exact ⟨rfl, by simpa using HN.out.below HB.out, qB9 HB.out _⟩
  have ha : addR L s = 0 := by unfold addR; rw [hn, if_pos rfl, if_neg hm]
  rw [ha]
  have HM := qA0.mk hm
  clear hk hn ha hm
  go_enter Tryz.func49, Tryz.ntmps49
  go_wp2_with fail
  refine (qBE.calls 200 s true _ HK.out).mono ?_
  rintro e w1 ⟨rfl, hb⟩
  have HB := qA0.mk hb
  have hN1 := HN.out.below hb
  have hlk := hN1.look (s := s) (by simp only [maxLen]; omega)
  rw [decide_eq_false HM.out] at hlk
  obtain ⟨w2, hup, hN2, hg2⟩ := hN1.put HL.out (s := s) (by simp only [maxLen]; omega)
  have HN2 := qA0.mk hN2
  have HG2 := qA0.mk ((qB9 hb (some b)).trans hg2)
  clear hb hN1 hN2 hg2
  go_wp2_with fail
  go_ret
  exact ⟨rfl, HN2.out, HG2.out⟩
def qD2.f (a0 : Int) : Option (Int × Int) := if a0 = 1 then (some (0, 1)) else (if a0 = 2 then (some ((-1099511627776), 1099511627776)) else (if a0 = 3 then (some ((-1048576), 1048576)) else (if a0 = 4 then (some (0, 1048575)) else (if a0 = 5 then (some ((-1048576), 1048576)) else (if a0 = 6 then (some ((-1000000000), 1000000000)) else (some (0, 0)))))))
theorem qD2.calls (a0 : Int) (r1 : Int) (r2 : Int) (w : World) (h : qD2.f a0 = some (r1, r2)) :
  Calls Tryz.prog 105 #[.int .i64 a0] w fun e w' => e = .returned (.tuple #[.int .i64 r1, .int .i64 r2]) ∧ qAX w w' := by
 have H := h
 unfold qD2.f at H
 clear h
 by_cases c2 : a0 = 1
 ·rw [if_pos c2] at H
  have ⟨c2b0, c2b1⟩ := ze c2
  clear c2
  simp only [Option.some.injEq, Prod.mk.injEq] at H
  obtain ⟨rfl, rfl⟩ := H
  go_enter Tryz.func105, Tryz.ntmps105
  go_wp2
  go_ret2
  exact ⟨zs, zD⟩
 rw [if_neg c2] at H
 have ⟨c2b0, c2b1⟩ := zn c2
 by_cases c3 : a0 = 2
 ·rw [if_pos c3] at H
  have ⟨c3b0, c3b1⟩ := ze c3
  clear c3
  simp only [Option.some.injEq, Prod.mk.injEq] at H
  obtain ⟨rfl, rfl⟩ := H
  go_enter Tryz.func105, Tryz.ntmps105
  go_wp2
  go_ret2
  exact ⟨zs, zD⟩
 rw [if_neg c3] at H
 have ⟨c3b0, c3b1⟩ := zn c3
 by_cases c4 : a0 = 3
 ·rw [if_pos c4] at H
  have ⟨c4b0, c4b1⟩ := ze c4
  clear c4
  simp only [Option.some.injEq, Prod.mk.injEq] at H
  obtain ⟨rfl, rfl⟩ := H
  go_enter Tryz.func105, Tryz.ntmps105
  go_wp2
  go_ret2
  exact ⟨zs, zD⟩
 rw [if_neg c4] at H
 have ⟨c4b0, c4b1⟩ := zn c4
 by_cases c5 : a0 = 4
 ·rw [if_pos c5] at H
  have ⟨c5b0, c5b1⟩ := ze c5
  clear c5
  simp only [Option.some.injEq, Prod.mk.injEq] at H
  obtain ⟨rfl, rfl⟩ := H
  go_enter Tryz.func105, Tryz.ntmps105
  go_wp2
  go_ret2
  exact ⟨zs, zD⟩
 rw [if_neg c5] at H
 have ⟨c5b0, c5b1⟩ := zn c5
 by_cases c6 : a0 = 5
 ·rw [if_pos c6] at H
  have ⟨c6b0, c6b1⟩ := ze c6
  clear c6
  simp only [Option.some.injEq, Prod.mk.injEq] at H
  obtain ⟨rfl, rfl⟩ := H
  go_enter Tryz.func105, Tryz.ntmps105
  go_wp2
  go_ret2
  exact ⟨zs, zD⟩
 rw [if_neg c6] at H
 have ⟨c6b0, c6b1⟩ := zn c6
 by_cases c7 : a0 = 6
 rotate_left
 ·rw [if_neg c7] at H
  have ⟨c7b0, c7b1⟩ := zn c7
  simp only [Option.some.injEq, Prod.mk.injEq] at H
  obtain ⟨rfl, rfl⟩ := H
  go_enter Tryz.func105, Tryz.ntmps105
  go_wp2
  go_ret2
  exact ⟨zs, zD⟩
 rw [if_pos c7] at H
 have ⟨c7b0, c7b1⟩ := ze c7
 clear c7
 simp only [Option.some.injEq, Prod.mk.injEq] at H
 obtain ⟨rfl, rfl⟩ := H
 go_enter Tryz.func105, Tryz.ntmps105
 go_wp2
 go_ret2
 exact ⟨zs, zD⟩
def qE2.f (a0 : Int) : Option (Bool) := if a0 ≥ 0 then (some (decide (a0 ≤ 6))) else (some false)
theorem qE2.calls (a0 : Int) (r : Bool) (w : World) (h : qE2.f a0 = some r) :
  Calls Tryz.prog 137 #[.int .i64 a0] w fun e w' => e = .returned (.bool r) ∧ qAX w w' := by
 have H := h
 unfold qE2.f at H
 clear h
 by_cases c2 : a0 ≥ 0
 rotate_left
 ·rw [if_neg c2] at H
  have c2b0 := decide_eq_false c2
  clear c2
  obtain rfl := Option.some.inj H
  go_enter Tryz.func137, Tryz.ntmps137
  go_wp2
  go_ret
  exact ⟨zs, zD⟩
 rw [if_pos c2] at H
 have c2b0 := decide_eq_true c2
 clear c2
 obtain rfl := Option.some.inj H
 go_enter Tryz.func137, Tryz.ntmps137
 go_wp2
 go_ret
 exact ⟨zs, zD⟩
def qCT.f (a0_0 : Int) (a0_1 : Int) : Option (Int) := (qD2.f a0_0).bind fun bt124 => ((qE2.f a0_0).bind fun t126 => (if t126 = true then (if a0_1 < bt124.1 then (some 2) else (if a0_1 > bt124.2 then (some 2) else (some 0))) else (some 8)))
theorem qCT.calls (a0_0 : Int) (a0_1 : Int) (r : Int) (w : World) (h : qCT.f a0_0 a0_1 = some r) :
  Calls Tryz.prog 102 #[.agg #[.int .i64 a0_0, .int .i64 a0_1]] w fun e w' => e = .returned (.int .i64 r) ∧ Below w.heap.size w w' := by
 have hu58 := Tryz.underlying58
 have HB := qA0.mk (Below.refl w.heap.size w)
 have H := h
 unfold qCT.f at H
 clear h
 replace H := zi H
 obtain ⟨⟨t124, t125⟩, A20, H⟩ := H
 dsimp only at H
 have A2 := qA0.mk A20
 clear A20
 replace H := zi H
 obtain ⟨t126, A30, H⟩ := H
 have A3 := qA0.mk A30
 clear A30
 by_cases c4 : t126 = true
 rotate_left
 ·replace c4 := Bool.eq_false_iff.mpr c4
  subst c4
  rw [zj] at H
  obtain rfl := Option.some.inj H
  go_enter Tryz.func102, Tryz.ntmps102
  go_wp2_with (first | ((with_reducible refine qA9 (N := 1) rfl ?_); refine boxZ 1 #[.int .i64 a0_0, .int .i64 a0_1] 58 ?_; intro gb123 hg w13 hbox hb; have BK123 := qA0.mk (hbox); have GW123 := zg w gb123; have GE123 := zg w gb123; replace HB := zB hb; clear hb hbox hg; obtain ⟨hcz14_0, hcz14_1, hfz14_0, hfz14_1⟩ := bc2 BK123.out) | ((with_reducible refine qA6 (f := 105) rfl ?_); refine qBP (some 8) Tryz.func105 #[.int .i64 a0_0] ?_; (with_reducible refine (qD2.calls a0_0 t124 t125 _ A2.out).mono ?_); rintro e w' ⟨rfl, ⟨nd, rfl⟩⟩; refine ⟨_, rfl, ?_⟩) | ((with_reducible refine qA6 (f := 137) rfl ?_); refine qBP (some 14) Tryz.func137 #[.int .i64 a0_0] ?_; (with_reducible refine (qE2.calls a0_0 false _ A3.out).mono ?_); rintro e w' ⟨rfl, ⟨nd, rfl⟩⟩; refine ⟨_, rfl, ?_⟩))
  go_ret
  exact ⟨zf, zb⟩
 subst c4
 rw [if_pos rfl] at H
 by_cases c5 : a0_1 < t124
 ·rw [if_pos c5] at H
  have c5b0 := decide_eq_true c5
  clear c5
  obtain rfl := Option.some.inj H
  go_enter Tryz.func102, Tryz.ntmps102
  go_wp2_with (first | ((with_reducible refine qA9 (N := 1) rfl ?_); refine boxZ 1 #[.int .i64 a0_0, .int .i64 a0_1] 58 ?_; intro gb123 hg w6 hbox hb; have BK123 := qA0.mk (hbox); have GW123 := zg w gb123; have GE123 := zg w gb123; replace HB := zB hb; clear hb hbox hg; obtain ⟨hcz7_0, hcz7_1, hfz7_0, hfz7_1⟩ := bc2 BK123.out) | ((with_reducible refine qA6 (f := 105) rfl ?_); refine qBP (some 8) Tryz.func105 #[.int .i64 a0_0] ?_; (with_reducible refine (qD2.calls a0_0 t124 t125 _ A2.out).mono ?_); rintro e w' ⟨rfl, ⟨nd, rfl⟩⟩; refine ⟨_, rfl, ?_⟩) | ((with_reducible refine qA6 (f := 137) rfl ?_); refine qBP (some 14) Tryz.func137 #[.int .i64 a0_0] ?_; (with_reducible refine (qE2.calls a0_0 true _ A3.out).mono ?_); rintro e w' ⟨rfl, ⟨nd, rfl⟩⟩; refine ⟨_, rfl, ?_⟩))
  go_ret
  exact ⟨zf, zb⟩
 rw [if_neg c5] at H
 have c5b0 := decide_eq_false c5
 clear c5
 by_cases c8 : a0_1 > t125
 rotate_left
 ·rw [if_neg c8] at H
  have c8b0 := decide_eq_false c8
  clear c8
  obtain rfl := Option.some.inj H
  go_enter Tryz.func102, Tryz.ntmps102
  go_wp2_with (first | ((with_reducible refine qA9 (N := 1) rfl ?_); refine boxZ 1 #[.int .i64 a0_0, .int .i64 a0_1] 58 ?_; intro gb123 hg w11 hbox hb; have BK123 := qA0.mk (hbox); have GW123 := zg w gb123; have GE123 := zg w gb123; replace HB := zB hb; clear hb hbox hg; obtain ⟨hcz12_0, hcz12_1, hfz12_0, hfz12_1⟩ := bc2 BK123.out) | ((with_reducible refine qA6 (f := 105) rfl ?_); refine qBP (some 8) Tryz.func105 #[.int .i64 a0_0] ?_; (with_reducible refine (qD2.calls a0_0 t124 t125 _ A2.out).mono ?_); rintro e w' ⟨rfl, ⟨nd, rfl⟩⟩; refine ⟨_, rfl, ?_⟩) | ((with_reducible refine qA6 (f := 137) rfl ?_); refine qBP (some 14) Tryz.func137 #[.int .i64 a0_0] ?_; (with_reducible refine (qE2.calls a0_0 true _ A3.out).mono ?_); rintro e w' ⟨rfl, ⟨nd, rfl⟩⟩; refine ⟨_, rfl, ?_⟩))
  go_ret
  exact ⟨zf, zb⟩
 rw [if_pos c8] at H
 have c8b0 := decide_eq_true c8
 clear c8
 obtain rfl := Option.some.inj H
 go_enter Tryz.func102, Tryz.ntmps102
 go_wp2_with (first | ((with_reducible refine qA9 (N := 1) rfl ?_); refine boxZ 1 #[.int .i64 a0_0, .int .i64 a0_1] 58 ?_; intro gb123 hg w9 hbox hb; have BK123 := qA0.mk (hbox); have GW123 := zg w gb123; have GE123 := zg w gb123; replace HB := zB hb; clear hb hbox hg; obtain ⟨hcz10_0, hcz10_1, hfz10_0, hfz10_1⟩ := bc2 BK123.out) | ((with_reducible refine qA6 (f := 105) rfl ?_); refine qBP (some 8) Tryz.func105 #[.int .i64 a0_0] ?_; (with_reducible refine (qD2.calls a0_0 t124 t125 _ A2.out).mono ?_); rintro e w' ⟨rfl, ⟨nd, rfl⟩⟩; refine ⟨_, rfl, ?_⟩) | ((with_reducible refine qA6 (f := 137) rfl ?_); refine qBP (some 14) Tryz.func137 #[.int .i64 a0_0] ?_; (with_reducible refine (qE2.calls a0_0 true _ A3.out).mono ?_); rintro e w' ⟨rfl, ⟨nd, rfl⟩⟩; refine ⟨_, rfl, ?_⟩))
 go_ret
 exact ⟨zf, zb⟩
attribute [local go_sem high] eqA58
mutual
def qC1.j0 : Nat → Bool → ByteArray → Int → Bool → Int → Int → Int → Int → Option (Int)
 | 0, _, _, _, _, _, _, _, _ => none
 | k + 1, x14, x128000, x128001, x128002, x128003, x128004, x128005, x128006 => if x14 = true then (some 8) else (if x128002 = true then (if (!(x128005 == 0) || (!(x128006 == 0))) = true then (some 3) else ((some (([x128003, x128004] : List Int) : List Int)).bind fun y128 => (qC1.l0 k y128 (y128.length : Int) 0 x128000 x128001 x128002 x128003 x128004 x128005 x128006))) else (if x128003 = 0 then (qC1.j2 k (x128004 != 0) x128000 x128001 x128002 x128003 x128004 x128005 x128006) else (qC1.j2 k true x128000 x128001 x128002 x128003 x128004 x128005 x128006)))
def qC1.l0 : Nat → List Int → Int → Int → ByteArray → Int → Bool → Int → Int → Int → Int → Option (Int)
 | 0, _, _, _, _, _, _, _, _, _, _ => none
 | k + 1, x25, x26, x27, x128000, x128001, x128002, x128003, x128004, x128005, x128006 => if x27 < x26 then (if 0 ≤ x27 then (if x27 < (x25.length : Int) then ((qCT.f x128001 (rd x25 x27)).bind fun t132 => (if t132 = 0 then (qC1.l0 k x25 x26 (wrap64 (x27 + 1)) x128000 x128001 x128002 x128003 x128004 x128005 x128006) else (some t132))) else (none)) else (none)) else (if x128003 > x128004 then (some 9) else (some 0))
def qC1.j2 : Nat → Bool → ByteArray → Int → Bool → Int → Int → Int → Int → Option (Int)
 | 0, _, _, _, _, _, _, _, _ => none
 | k + 1, x52, x128000, x128001, x128002, x128003, x128004, x128005, x128006 => if x52 = true then (some 3) else ((qCT.f x128005 x128006).bind fun t133 => (if t133 = 0 then (if x128005 = 0 then (some 0) else (if x128005 = x128001 then (some 0) else (some 8))) else (some t133)))
end
def qC1.f (k : Nat) (a0_0 : ByteArray) (a0_1 : Int) (a0_2 : Bool) (a0_3 : Int) (a0_4 : Int) (a0_5 : Int) (a0_6 : Int) : Option (Int) := if a0_1 ≤ 0 then (qC1.j0 k true a0_0 a0_1 a0_2 a0_3 a0_4 a0_5 a0_6) else (qC1.j0 k (decide (a0_1 > 6)) a0_0 a0_1 a0_2 a0_3 a0_4 a0_5 a0_6)
theorem qC1.calls (k : Nat) (a0_0 : ByteArray) (a0_1 : Int) (a0_2 : Bool) (a0_3 : Int) (a0_4 : Int) (a0_5 : Int) (a0_6 : Int) (r : Int) (w : World) (h : qC1.f k a0_0 a0_1 a0_2 a0_3 a0_4 a0_5 a0_6 = some r) :
  Calls Tryz.prog 72 #[.agg #[.string a0_0, .int .i64 a0_1, .bool a0_2, .int .i64 a0_3, .int .i64 a0_4, .int .i64 a0_5, .int .i64 a0_6]] w fun e w' => e = .returned (.int .i64 r) ∧ Below w.heap.size w w' := by
 have hu60 := Tryz.underlying60
 have hu58 := Tryz.underlying58
 have HB := qA0.mk (Below.refl w.heap.size w)
 have H := h
 unfold qC1.f at H
 clear h
 have HC2 := qA0.mk H
 clear H
 go_enter Tryz.func72, Tryz.ntmps72
 go_upto_region 1 with (((with_reducible refine qA9 (N := 1) rfl ?_); refine boxZ 1 #[.string a0_0, .int .i64 a0_1, .bool a0_2, .int .i64 a0_3, .int .i64 a0_4, .int .i64 a0_5, .int .i64 a0_6] 60 ?_; intro gb127 hg w3 hbox hb; have BK127 := qA0.mk (hbox); have GW127 := zg w gb127; have GE127 := zg w gb127; replace HB := zB hb; clear hb hbox hg))
 go_cut [14] (fun v14 wc => ∃ (kq : Nat) (x14_1 : Bool), v14 = .bool x14_1 ∧ qA0 (qC1.j0 kq x14_1 a0_0 a0_1 a0_2 a0_3 a0_4 a0_5 a0_6 = some r) ∧ qA0 (kq ≤ k) ∧ qA0 (wc.heap[gb127]? = some (.cells #[.string a0_0, .int .i64 a0_1, .bool a0_2, .int .i64 a0_3, .int .i64 a0_4, .int .i64 a0_5, .int .i64 a0_6] 60 (0, 0))) ∧ qA0 (Below w.heap.size w wc))
 case first =>
  have H := HC2.out
  clear HC2
  by_cases c4 : a0_1 ≤ 0
  rotate_left
  ·rw [if_neg c4] at H
   have c4b0 := decide_eq_false c4
   clear c4
   (first | rw [c4b0] | (simp only [qC9, qCB]; rw [c4b0]) | skip)
   have H' := qA0.mk H
   clear H
   obtain ⟨hcz6_0, hcz6_1, hcz6_2, hcz6_3, hcz6_4, hcz6_5, hcz6_6, hfz6_0, hfz6_1, hfz6_2, hfz6_3, hfz6_4, hfz6_5, hfz6_6⟩ := bc7 BK127.out
   go_wp2
   go_meet
   case rel => exact ⟨_, (decide (a0_1 > 6)), zs, H', ⟨by first | omega | exact Nat.le_refl _⟩, ⟨zk BK127⟩, ⟨zb⟩⟩
  rw [if_pos c4] at H
  have c4b0 := decide_eq_true c4
  clear c4
  (first | rw [c4b0] | (simp only [qC9, qCB]; rw [c4b0]) | skip)
  have H' := qA0.mk H
  clear H
  obtain ⟨hcz5_0, hcz5_1, hcz5_2, hcz5_3, hcz5_4, hcz5_5, hcz5_6, hfz5_0, hfz5_1, hfz5_2, hfz5_3, hfz5_4, hfz5_5, hfz5_6⟩ := bc7 BK127.out
  go_wp2
  go_meet
  case rel => exact ⟨_, (true), zs, H', ⟨by first | omega | exact Nat.le_refl _⟩, ⟨zk BK127⟩, ⟨zb⟩⟩
 clear HC2
 obtain ⟨kq, x14_1, rfl, HA, HJ1, BK127, HB⟩ := hcut
 obtain _ | kj1 := kq
 ·exact absurd HA.out (by simp [qC1.j0])
 have H := HA.out
 clear HA
 simp only [qC1.j0] at H
 by_cases c7 : x14_1 = true
 ·subst c7
  rw [if_pos rfl] at H
  obtain rfl := Option.some.inj H
  go_wp2
  go_ret
  exact ⟨zf, zb⟩
 replace c7 := Bool.eq_false_iff.mpr c7
 subst c7
 rw [zj] at H
 by_cases c8 : a0_2 = true
 rotate_left
 ·replace c8 := Bool.eq_false_iff.mpr c8
  subst c8
  rw [zj] at H
  have HC27 := qA0.mk H
  clear H
  obtain ⟨hcz28_0, hcz28_1, hcz28_2, hcz28_3, hcz28_4, hcz28_5, hcz28_6, hfz28_0, hfz28_1, hfz28_2, hfz28_3, hfz28_4, hfz28_5, hfz28_6⟩ := bc7 BK127.out
  go_upto_region 16 with (fail)
  go_cut [52] (fun v52 wc => ∃ (kq : Nat) (x52_26 : Bool), v52 = .bool x52_26 ∧ qA0 (qC1.j2 kq x52_26 a0_0 a0_1 false a0_3 a0_4 a0_5 a0_6 = some r) ∧ qA0 (kq ≤ kj1) ∧ qA0 (wc.heap[gb127]? = some (.cells #[.string a0_0, .int .i64 a0_1, .bool false, .int .i64 a0_3, .int .i64 a0_4, .int .i64 a0_5, .int .i64 a0_6] 60 (0, 0))) ∧ qA0 (Below w.heap.size w wc))
  case first =>
   have H := HC27.out
   clear HC27
   by_cases c29 : a0_3 = 0
   rotate_left
   ·rw [if_neg c29] at H
    have ⟨c29b0, c29b1⟩ := zn c29
    (first | rw [c29b0] | (simp only [qC9, qCB]; rw [c29b0]) | skip)
    have H' := qA0.mk H
    clear H
    obtain ⟨hcz31_0, hcz31_1, hcz31_2, hcz31_3, hcz31_4, hcz31_5, hcz31_6, hfz31_0, hfz31_1, hfz31_2, hfz31_3, hfz31_4, hfz31_5, hfz31_6⟩ := bc7 BK127.out
    go_wp2
    go_meet
    case rel => exact ⟨_, (true), zs, H', ⟨by have := HJ1.out; first | omega | exact Nat.le_refl _⟩, ⟨zk BK127⟩, ⟨zb⟩⟩
   rw [if_pos c29] at H
   have ⟨c29b0, c29b1⟩ := ze c29
   clear c29
   (first | rw [c29b0] | (simp only [qC9, qCB]; rw [c29b0]) | skip)
   have H' := qA0.mk H
   clear H
   obtain ⟨hcz30_0, hcz30_1, hcz30_2, hcz30_3, hcz30_4, hcz30_5, hcz30_6, hfz30_0, hfz30_1, hfz30_2, hfz30_3, hfz30_4, hfz30_5, hfz30_6⟩ := bc7 BK127.out
   go_wp2
   go_meet
   case rel => exact ⟨_, ((a0_4 != 0)), zs, H', ⟨by have := HJ1.out; first | omega | exact Nat.le_refl _⟩, ⟨zk BK127⟩, ⟨zb⟩⟩
  clear HC27 hcz28_0 hcz28_1 hcz28_2 hcz28_3 hcz28_4 hcz28_5 hcz28_6 hfz28_0 hfz28_1 hfz28_2 hfz28_3 hfz28_4 hfz28_5 hfz28_6
  obtain ⟨kq, x52_26, rfl, HA, HJ26, BK127, HB⟩ := hcut
  obtain _ | kj26 := kq
  ·exact absurd HA.out (by simp [qC1.j2])
  have H := HA.out
  clear HA
  simp only [qC1.j2] at H
  by_cases c32 : x52_26 = true
  ·subst c32
   rw [if_pos rfl] at H
   obtain rfl := Option.some.inj H
   go_wp2
   go_ret
   exact ⟨zf, zb⟩
  replace c32 := Bool.eq_false_iff.mpr c32
  subst c32
  rw [zj] at H
  replace H := zi H
  obtain ⟨t133, A330, H⟩ := H
  have A33 := qA0.mk A330
  clear A330
  by_cases c34 : t133 = 0
  rotate_left
  ·rw [if_neg c34] at H
   have ⟨c34b0, c34b1⟩ := zn c34
   obtain rfl := Option.some.inj H
   obtain ⟨hcz46_0, hcz46_1, hcz46_2, hcz46_3, hcz46_4, hcz46_5, hcz46_6, hfz46_0, hfz46_1, hfz46_2, hfz46_3, hfz46_4, hfz46_5, hfz46_6⟩ := bc7 BK127.out
   go_wp2_with (((with_reducible refine qA6 (f := 102) rfl ?_); refine qBP (some 55) Tryz.func102 #[.agg #[.int .i64 a0_5, .int .i64 a0_6]] ?_; (with_reducible refine (qCT.calls a0_5 a0_6 t133 _ A33.out).mono ?_); rintro e w47 ⟨rfl, hb⟩; refine ⟨_, rfl, ?_⟩; replace BK127 := zK BK127 hb; replace HB := zB hb; (try clear hb hk); (try clear hb)))
   go_ret
   exact ⟨zf, zb⟩
  rw [if_pos c34] at H
  have ⟨c34b0, c34b1⟩ := ze c34
  clear c34
  by_cases c35 : a0_5 = 0
  ·rw [if_pos c35] at H
   have ⟨c35b0, c35b1⟩ := ze c35
   clear c35
   obtain rfl := Option.some.inj H
   obtain ⟨hcz36_0, hcz36_1, hcz36_2, hcz36_3, hcz36_4, hcz36_5, hcz36_6, hfz36_0, hfz36_1, hfz36_2, hfz36_3, hfz36_4, hfz36_5, hfz36_6⟩ := bc7 BK127.out
   go_wp2_with (((with_reducible refine qA6 (f := 102) rfl ?_); refine qBP (some 55) Tryz.func102 #[.agg #[.int .i64 a0_5, .int .i64 a0_6]] ?_; (with_reducible refine (qCT.calls a0_5 a0_6 t133 _ A33.out).mono ?_); rintro e w37 ⟨rfl, hb⟩; refine ⟨_, rfl, ?_⟩; replace BK127 := zK BK127 hb; replace HB := zB hb; (try clear hb hk); (try clear hb); obtain ⟨hcz38_0, hcz38_1, hcz38_2, hcz38_3, hcz38_4, hcz38_5, hcz38_6, hfz38_0, hfz38_1, hfz38_2, hfz38_3, hfz38_4, hfz38_5, hfz38_6⟩ := bc7 BK127.out))
   go_ret
   exact ⟨zf, zb⟩
  rw [if_neg c35] at H
  have ⟨c35b0, c35b1⟩ := zn c35
  by_cases c39 : a0_5 = a0_1
  rotate_left
  ·rw [if_neg c39] at H
   have ⟨c39b0, c39b1⟩ := zn c39
   obtain rfl := Option.some.inj H
   obtain ⟨hcz43_0, hcz43_1, hcz43_2, hcz43_3, hcz43_4, hcz43_5, hcz43_6, hfz43_0, hfz43_1, hfz43_2, hfz43_3, hfz43_4, hfz43_5, hfz43_6⟩ := bc7 BK127.out
   go_wp2_with (((with_reducible refine qA6 (f := 102) rfl ?_); refine qBP (some 55) Tryz.func102 #[.agg #[.int .i64 a0_5, .int .i64 a0_6]] ?_; (with_reducible refine (qCT.calls a0_5 a0_6 t133 _ A33.out).mono ?_); rintro e w44 ⟨rfl, hb⟩; refine ⟨_, rfl, ?_⟩; replace BK127 := zK BK127 hb; replace HB := zB hb; (try clear hb hk); (try clear hb); obtain ⟨hcz45_0, hcz45_1, hcz45_2, hcz45_3, hcz45_4, hcz45_5, hcz45_6, hfz45_0, hfz45_1, hfz45_2, hfz45_3, hfz45_4, hfz45_5, hfz45_6⟩ := bc7 BK127.out))
   go_ret
   exact ⟨zf, zb⟩
  rw [if_pos c39] at H
  have ⟨c39b0, c39b1⟩ := ze c39
  clear c39
  obtain rfl := Option.some.inj H
  obtain ⟨hcz40_0, hcz40_1, hcz40_2, hcz40_3, hcz40_4, hcz40_5, hcz40_6, hfz40_0, hfz40_1, hfz40_2, hfz40_3, hfz40_4, hfz40_5, hfz40_6⟩ := bc7 BK127.out
  go_wp2_with (((with_reducible refine qA6 (f := 102) rfl ?_); refine qBP (some 55) Tryz.func102 #[.agg #[.int .i64 a0_5, .int .i64 a0_6]] ?_; (with_reducible refine (qCT.calls a0_5 a0_6 t133 _ A33.out).mono ?_); rintro e w41 ⟨rfl, hb⟩; refine ⟨_, rfl, ?_⟩; replace BK127 := zK BK127 hb; replace HB := zB hb; (try clear hb hk); (try clear hb); obtain ⟨hcz42_0, hcz42_1, hcz42_2, hcz42_3, hcz42_4, hcz42_5, hcz42_6, hfz42_0, hfz42_1, hfz42_2, hfz42_3, hfz42_4, hfz42_5, hfz42_6⟩ := bc7 BK127.out))
  go_ret
  exact ⟨zf, zb⟩
 subst c8
 rw [if_pos rfl] at H
 by_cases c9 : (!(a0_5 == 0) || (!(a0_6 == 0))) = true
 ·rw [if_pos c9] at H
  have c9b0 : (!(a0_5 == 0) || (!(a0_6 == 0))) = true := c9
  clear c9
  obtain rfl := Option.some.inj H
  obtain ⟨hcz10_0, hcz10_1, hcz10_2, hcz10_3, hcz10_4, hcz10_5, hcz10_6, hfz10_0, hfz10_1, hfz10_2, hfz10_3, hfz10_4, hfz10_5, hfz10_6⟩ := bc7 BK127.out
  go_wp2
  go_ret
  exact ⟨zf, zb⟩
 rw [if_neg c9] at H
 have c9b0 : (!(a0_5 == 0) || (!(a0_6 == 0))) = false := by simpa using c9
 clear c9
 obtain ⟨y128, hy_⟩ : ∃ y_ : List Int, y_ = (([a0_3, a0_4] : List Int)) := ⟨_, rfl⟩
 replace H : (qC1.l0 kj1 y128 (y128.length : Int) 0 a0_0 a0_1 true a0_3 a0_4 a0_5 a0_6) = some r := zr
 have Ny128 := qA0.mk hy_
 clear hy_
 have H' := qA0.mk H
 clear H
 obtain ⟨hcz11_0, hcz11_1, hcz11_2, hcz11_3, hcz11_4, hcz11_5, hcz11_6, hfz11_0, hfz11_1, hfz11_2, hfz11_3, hfz11_4, hfz11_5, hfz11_6⟩ := bc7 BK127.out
 go_wp2_with (((with_reducible refine qA9 (N := 25) rfl ?_); refine Kd.R_lit (Kd.int .i64) _ 3 ?hg (N := 25) ?hd (xs := ([a0_3, a0_4] : List Int)) (inner := [.int .i64 a0_3, .int .i64 a0_4]) (ok := fun _ => True) (okp := fun _ => True) ?hr ?hp (fun _ hk => hk) trivial (Below.refl _ _) (Nat.le_refl _) (by simp) ?_; (case hd => rfl); (case hg => rfl); (case hr => first | (go_simp; done) | (go_simp; rfl)); (case hp => exact (Reps.one (show Kd.M (Kd.int .i64) _ _ _ a0_3 [.int .i64 a0_3] from rfl) (Reps.one (show Kd.M (Kd.int .i64) _ _ _ a0_4 [.int .i64 a0_4] from rfl) (Reps.none _ _)))); intro v129 w12 ho13 hb hg_ hnew_; clear hg_ hnew_; (first | rw [← Ny128.out] at ho13 | (simp only [Int.reduceToNat] at ho13; rw [← Ny128.out] at ho13)); have HO130 := qA0.mk (Kd.qCI ho13 (qAI zb)); replace BK127 := zK BK127 hb; replace HB := zB hb; clear hb ho13; obtain ⟨Ao14, co14, eo14⟩ := Kd.qBV HO130.out; subst eo14))
 go_loopg [27] kj1 (fun kq v27 w' => ∃ (x27_2 : Int), v27 = .int .i64 x27_2 ∧ qA0 (qC1.l0 kq y128 (y128.length : Int) x27_2 a0_0 a0_1 true a0_3 a0_4 a0_5 a0_6 = some r) ∧ qA0 (kq ≤ kj1) ∧ qA0 (Kd.R (Kd.int .i64) 3 w' w.heap.size (fun _ => True) (.slice Ao14 y128.length co14) y128) ∧ qA0 (w'.heap[gb127]? = some (.cells #[.string a0_0, .int .i64 a0_1, .bool true, .int .i64 a0_3, .int .i64 a0_4, .int .i64 a0_5, .int .i64 a0_6] 60 (0, 0))) ∧ qA0 (Below w.heap.size w w'))
 case atStart => exact ⟨(0), zs, H', ⟨Nat.le_refl _⟩, zR HO130, ⟨zk BK127⟩, ⟨zb⟩⟩
 clear H' c9b0 hcz11_0 hcz11_1 hcz11_2 hcz11_3 hcz11_4 hcz11_5 hcz11_6 hfz11_0 hfz11_1 hfz11_2 hfz11_3 hfz11_4 hfz11_5 hfz11_6
 obtain ⟨x27_2, rfl, HA, HK2, HO_25, BK127, HB⟩ := hrel
 obtain _ | k2 := gk
 ·exact absurd HA.out (by simp [qC1.l0])
 have H := HA.out
 clear HA
 simp only [qC1.l0] at H
 by_cases c15 : x27_2 < (y128.length : Int)
 rotate_left
 ·rw [if_neg c15] at H
  have c15b0 := decide_eq_false c15
  clear c15
  by_cases c24 : a0_3 > a0_4
  rotate_left
  ·rw [if_neg c24] at H
   have c24b0 := decide_eq_false c24
   clear c24
   obtain rfl := Option.some.inj H
   obtain ⟨hcz26_0, hcz26_1, hcz26_2, hcz26_3, hcz26_4, hcz26_5, hcz26_6, hfz26_0, hfz26_1, hfz26_2, hfz26_3, hfz26_4, hfz26_5, hfz26_6⟩ := bc7 BK127.out
   go_wp2
   go_ret
   exact ⟨zf, zb⟩
  rw [if_pos c24] at H
  have c24b0 := decide_eq_true c24
  clear c24
  obtain rfl := Option.some.inj H
  obtain ⟨hcz25_0, hcz25_1, hcz25_2, hcz25_3, hcz25_4, hcz25_5, hcz25_6, hfz25_0, hfz25_1, hfz25_2, hfz25_3, hfz25_4, hfz25_5, hfz25_6⟩ := bc7 BK127.out
  go_wp2
  go_ret
  exact ⟨zf, zb⟩
 rw [if_pos c15] at H
 have c15b0 := decide_eq_true c15
 clear c15
 by_cases c16 : 0 ≤ x27_2
 rotate_left
 ·rw [if_neg c16] at H
  cases H
 rw [if_pos c16] at H
 have c16b0 := decide_eq_true c16
 clear c16
 by_cases c17 : x27_2 < (y128.length : Int)
 rotate_left
 ·rw [if_neg c17] at H
  cases H
 rw [if_pos c17] at H
 have c17b0 := decide_eq_true c17
 clear c17
 replace H := zi H
 obtain ⟨t132, A180, H⟩ := H
 have A18 := qA0.mk A180
 clear A180
 by_cases c19 : t132 = 0
 rotate_left
 ·rw [if_neg c19] at H
  have ⟨c19b0, c19b1⟩ := zn c19
  obtain rfl := Option.some.inj H
  have p131 : 0 ≤ (x27_2 : Int) := zd
  have q131 : x27_2 < (y128.length : Int) := zd
  obtain ⟨ad131, e131, hx131_0⟩ := Kd.qC2 (Kd.qB3 HO_25.out).2.2 x27_2 p131 q131
  cases e131
  replace p131 := eq_true p131
  replace q131 := eq_true q131
  obtain ⟨hcz22_0, hcz22_1, hcz22_2, hcz22_3, hcz22_4, hcz22_5, hcz22_6, hfz22_0, hfz22_1, hfz22_2, hfz22_3, hfz22_4, hfz22_5, hfz22_6⟩ := bc7 BK127.out
  go_wp2_with (((with_reducible refine qA6 (f := 102) rfl ?_); refine qBP (some 35) Tryz.func102 #[.agg #[.int .i64 a0_1, .int .i64 (rd y128 x27_2)]] ?_; (with_reducible refine (qCT.calls a0_1 (rd y128 x27_2) t132 _ A18.out).mono ?_); rintro e w23 ⟨rfl, hb⟩; refine ⟨_, rfl, ?_⟩; replace HO_25 := qA0.mk (Kd.qBN (by (with_reducible repeat refine sR ?_); exact HO_25.out) hb); replace BK127 := zK BK127 hb; replace HB := zB hb; (try clear hb hk); (try clear hb)))
  go_ret
  exact ⟨zf, zb⟩
 rw [if_pos c19] at H
 have ⟨c19b0, c19b1⟩ := ze c19
 clear c19
 have H' := qA0.mk H
 clear H
 have p131 : 0 ≤ (x27_2 : Int) := zd
 have q131 : x27_2 < (y128.length : Int) := zd
 obtain ⟨ad131, e131, hx131_0⟩ := Kd.qC2 (Kd.qB3 HO_25.out).2.2 x27_2 p131 q131
 cases e131
 replace p131 := eq_true p131
 replace q131 := eq_true q131
 obtain ⟨hcz20_0, hcz20_1, hcz20_2, hcz20_3, hcz20_4, hcz20_5, hcz20_6, hfz20_0, hfz20_1, hfz20_2, hfz20_3, hfz20_4, hfz20_5, hfz20_6⟩ := bc7 BK127.out
 go_wp2_with (((with_reducible refine qA6 (f := 102) rfl ?_); refine qBP (some 35) Tryz.func102 #[.agg #[.int .i64 a0_1, .int .i64 (rd y128 x27_2)]] ?_; (with_reducible refine (qCT.calls a0_1 (rd y128 x27_2) t132 _ A18.out).mono ?_); rintro e w21 ⟨rfl, hb⟩; refine ⟨_, rfl, ?_⟩; replace HO_25 := qA0.mk (Kd.qBN (by (with_reducible repeat refine sR ?_); exact HO_25.out) hb); replace BK127 := zK BK127 hb; replace HB := zB hb; (try clear hb hk); (try clear hb)))
 go_roundg k2
 case measure => have := HJ1.out; have := HK2.out; omega
 case rel => exact ⟨(wrap64 (x27_2 + 1)), zs, H', ⟨by have := HJ1.out; have := HK2.out; omega⟩, zR HO_25, ⟨zk BK127⟩, ⟨zb⟩⟩
def qCZ.okc (x : Int) : Bool := decide (97 ≤ x ∧ x ≤ 122 ∨ 48 ≤ x ∧ x ≤ 57 ∨ x = 45)
def qCZ.b (s : ByteArray) : Bool := if s.toList = [] then false else if 20 < s.size then false else if bt s 0 < 97 then false else (List.range s.size).all fun j => qCZ.okc (bt s (j : Int))
def qCZ.f (s : ByteArray) : Option Bool := some (qCZ.b s)
theorem qCZ.calls (a0 : ByteArray) (r : Bool) (w : World) (h : qCZ.f a0 = some r) :
  Calls Tryz.prog 103 #[.string a0] w fun e w' => e = .returned (.bool r) ∧ Below w.heap.size w w' := by
 have h := Option.some.inj h
 unfold qCZ.b at h
 by_cases c1 : a0.toList = []
 ·rw [if_pos c1] at h
  subst h
  have ⟨c1b0, c1b1⟩ := ze c1
  clear c1
  go_enter Tryz.func103, Tryz.ntmps103
  go_wp2
  go_ret
  exact ⟨rfl, by repeat (first | exact Below.refl _ _ | apply qA8)⟩
 rw [if_neg c1] at h
 have hne : 0 < a0.size := by
  rcases Nat.eq_zero_or_pos a0.size with e | e
  ·exfalso
   apply c1
   have e2 : a0 = ⟨#[]⟩ := by
    cases a0 with
    | mk d => have : d.size = 0 := e; rw [Array.size_eq_zero_iff] at this; rw [this]
   rw [e2]; simp [ByteArray.toList, ByteArray.toList.loop, ByteArray.size]
  ·exact e
 have ⟨c1b0, c1b1⟩ := zn c1
 clear c1
 by_cases c2 : 20 < a0.size
 ·rw [if_pos c2] at h
  subst h
  have c2b0 : decide (20 < (a0.size : Int)) = true := decide_eq_true (by omega)
  have c2b1 := decide_eq_true c2
  clear c2
  go_enter Tryz.func103, Tryz.ntmps103
  go_wp2
  go_ret
  exact ⟨rfl, by repeat (first | exact Below.refl _ _ | apply qA8)⟩
 rw [if_neg c2] at h
 have c2b0 : decide (20 < (a0.size : Int)) = false := decide_eq_false (by omega)
 have c2b1 := decide_eq_false c2
 have hsz : a0.size ≤ 20 := by omega
 clear c2
 have hx6 : ∀ h : 0 < a0.size, ((a0[0]'h).toNat : Int) = bt a0 0 := bt_at a0 0
 have q6 := eq_true hne
 have qi6 : (0 < (a0.size : Int)) = True := eq_true (by omega)
 by_cases c3 : bt a0 0 < 97
 ·rw [if_pos c3] at h
  subst h
  have c3b0 := decide_eq_true c3
  clear c3
  go_enter Tryz.func103, Tryz.ntmps103
  go_wp2
  go_ret
  exact ⟨rfl, by repeat (first | exact Below.refl _ _ | apply qA8)⟩
 rw [if_neg c3] at h
 have c3b0 := decide_eq_false c3
 clear c3
 have hcv := fun W => print_bytes (P := Tryz.prog) 9 208 5 Tryz.underlying9 Tryz.underlying208 Tryz.underlying5 a0 W
 have HH := qA0.mk h
 clear h
 have HB := qA0.mk (bytes_below (Below.refl w.heap.size w) (Nat.le_refl _) 5 a0)
 have HC := qA0.mk (fun j (hj : j < a0.size) => (Lib.bytesWorld_cell w 5 a0 j hj).trans (congrArg (fun x => some (Value.int .u8 x)) (show (((a0.data.toList.getD j 0).toNat : Nat) : Int) = bt a0 (j : Int) from by
  rw [← rd_bytesOf]
  have h' : j < a0.data.toList.length := by rw [data_length]; exact hj
  simp [rd, bytesOf, List.getD_eq_getElem?_getD, List.getElem?_eq_getElem h'])))
 go_enter Tryz.func103, Tryz.ntmps103
 go_wp2
 generalize hW : Lib.bytesWorld w 5 a0 = W at HB HC ⊢
 clear hW hcv
 go_loop [20] (fun v20 => ∃ i : Nat, i ≤ a0.size ∧ v20 = .int .i64 i ∧ qA0 (∀ j, j < i → qCZ.okc (bt a0 (j : Int)) = true)) (fun v20 => a0.size - (RowKit.intOf v20).toNat)
 case atStart => exact ⟨0, by omega, rfl, ⟨fun j hj => by omega⟩⟩
 obtain ⟨i, hi, rfl, HJ⟩ := hrel
 by_cases hlt : i < a0.size
 rotate_left
 ·obtain rfl : i = a0.size := by omega
  have hr : r = true := by
   rw [← HH.out, List.all_eq_true]
   intro j hj
   exact HJ.out j (List.mem_range.1 hj)
  subst hr
  go_wp2
  go_ret
  exact ⟨rfl, HB.out⟩
 have hc := HC.out i hlt
 obtain ⟨g0, g1⟩ := bt_range a0 (i : Int)
 generalize hx : bt a0 (i : Int) = x at *
 have HX := qA0.mk hx
 clear hx
 by_cases hok : qCZ.okc x = true
 ·have HJ' : qA0 (∀ j, j < i + 1 → qCZ.okc (bt a0 (j : Int)) = true) := ⟨fun j hj => by
   rcases Nat.lt_or_ge j i with h | h
   ·exact HJ.out j h
   ·obtain rfl : j = i := by omega
    rw [HX.out]; exact hok⟩
  have hd := of_decide_eq_true hok
  have hs : IntKind.i64.wrap ((i : Int) + 1) = ((i + 1 : Nat) : Int) := by rw [IntKind.wrap_i64]; omega
  by_cases d1 : 97 ≤ x <;> by_cases d2 : x ≤ 122 <;> by_cases d3 : 48 ≤ x <;> by_cases d4 : x ≤ 57 <;> by_cases d5 : x = 45
  all_goals first
   | (exfalso; omega)
   | (have e1 : decide (97 ≤ x) = true := decide_eq_true d1) | (have e1 : decide (97 ≤ x) = false := decide_eq_false d1)
  all_goals first
   | (have e2 : decide (x ≤ 122) = true := decide_eq_true d2) | (have e2 : decide (x ≤ 122) = false := decide_eq_false d2)
  all_goals first
   | (have e3 : decide (48 ≤ x) = true := decide_eq_true d3) | (have e3 : decide (48 ≤ x) = false := decide_eq_false d3)
  all_goals first
   | (have e4 : decide (x ≤ 57) = true := decide_eq_true d4) | (have e4 : decide (x ≤ 57) = false := decide_eq_false d4)
  all_goals first
   | (have e5 : (x == 45) = true := beq_iff_eq.mpr d5) | (have e5 : (x == 45) = false := beq_eq_false_iff_ne.mpr d5)
  all_goals
   clear d1 d2 d3 d4 d5 hd hok
   go_wp2
   go_round
   case rel => exact ⟨i + 1, by omega, by first | rfl | (simp; done) | (rw [Int.natCast_add]; rfl), HJ'⟩
   case measure => simp [RowKit.intOf]; omega
 have hr : r = false := by
  rw [← HH.out]
  apply Bool.eq_false_iff.2
  intro hall
  rw [List.all_eq_true] at hall
  have := hall i (List.mem_range.2 hlt)
  rw [HX.out] at this
  exact hok this
 subst hr
 have hd : ¬ (97 ≤ x ∧ x ≤ 122 ∨ 48 ≤ x ∧ x ≤ 57 ∨ x = 45) := fun h => hok (decide_eq_true h)
 by_cases d1 : 97 ≤ x <;> by_cases d2 : x ≤ 122 <;> by_cases d3 : 48 ≤ x <;> by_cases d4 : x ≤ 57
 all_goals first
  | (exfalso; omega)
  | (have e1 : decide (97 ≤ x) = true := decide_eq_true d1) | (have e1 : decide (97 ≤ x) = false := decide_eq_false d1)
 all_goals first
  | (have e2 : decide (x ≤ 122) = true := decide_eq_true d2) | (have e2 : decide (x ≤ 122) = false := decide_eq_false d2)
 all_goals first
  | (have e3 : decide (48 ≤ x) = true := decide_eq_true d3) | (have e3 : decide (48 ≤ x) = false := decide_eq_false d3)
 all_goals first
  | (have e4 : decide (x ≤ 57) = true := decide_eq_true d4) | (have e4 : decide (x ≤ 57) = false := decide_eq_false d4)
 all_goals
  have e5 : (x == 45) = false := beq_eq_false_iff_ne.mpr (by omega)
  clear d1 d2 d3 d4 hd hok
  go_wp2
  go_ret
  exact ⟨rfl, HB.out⟩
def qDK.f (a0_0 : ByteArray) (a0_1 : Int) (a0_2 : Int) (a0_3 : Bool) (l0_4 : List (S134)) : Option (Bool) := if a0_1 ≥ 2 then (if a0_2 = 2 then (if a0_1 ≤ 6 then (if a0_3 = true then (if a0_1 = 2 then (some (a0_2 == 2)) else (some false)) else (some true)) else (some false)) else (if a0_2 = 3 then (if a0_1 ≤ 6 then (if a0_3 = true then (if a0_1 = 2 then (some (a0_2 == 2)) else (some false)) else (some true)) else (some false)) else (if a0_2 = 5 then (if a0_1 ≤ 6 then (if a0_3 = true then (if a0_1 = 2 then (some (a0_2 == 2)) else (some false)) else (some true)) else (some false)) else (if a0_1 ≤ 6 then (if a0_2 = 6 then (if a0_3 = true then (if a0_1 = 2 then (some (a0_2 == 2)) else (some false)) else (some true)) else (some false)) else (some false))))) else (if a0_2 = 2 then (some false) else (if a0_2 = 3 then (some false) else (if a0_2 = 5 then (some false) else (some false))))
theorem qDK.calls (a0_0 : ByteArray) (a0_1 : Int) (a0_2 : Int) (a0_3 : Bool) (A0_4 : Option Addr) (c0_4 : Nat) (l0_4 : List (S134)) (r : Bool) (w : World) (hr0_4 : Kd.C k134 w A0_4 l0_4.length l0_4) (hc0_4 : l0_4.length ≤ c0_4) (h : qDK.f a0_0 a0_1 a0_2 a0_3 l0_4 = some r) :
  Calls Tryz.prog 104 #[.agg #[.string a0_0, .int .i64 a0_1, .int .i64 a0_2, .bool a0_3, .slice A0_4 l0_4.length c0_4]] w fun e w' => e = .returned (.bool r) ∧ Below w.heap.size w w' := by
 have hu95 := Tryz.underlying95
 have HR0_4 := qA0.mk hr0_4
 have HC0_4 := qA0.mk hc0_4
 clear hr0_4 hc0_4
 have HB := qA0.mk (Below.refl w.heap.size w)
 have H := h
 unfold qDK.f at H
 clear h
 by_cases c2 : a0_1 ≥ 2
 rotate_left
 ·rw [if_neg c2] at H
  have c2b0 := decide_eq_false c2
  clear c2
  by_cases c53 : a0_2 = 2
  ·rw [if_pos c53] at H
   have ⟨c53b0, c53b1⟩ := ze c53
   clear c53
   obtain rfl := Option.some.inj H
   go_enter Tryz.func104, Tryz.ntmps104
   go_wp2_with (((with_reducible refine qA9 (N := 1) rfl ?_); refine boxZ 1 #[.string a0_0, .int .i64 a0_1, .int .i64 a0_2, .bool a0_3, .slice A0_4 l0_4.length c0_4] 95 ?_; intro gb134 hg w54 hbox hb; have BK134 := qA0.mk (hbox); have GW134 := zg w gb134; have GE134 := zg w gb134; replace HB := zB hb; clear hb hbox hg; obtain ⟨hcz55_0, hcz55_1, hcz55_2, hcz55_3, hcz55_4, hfz55_0, hfz55_1, hfz55_2, hfz55_3, hfz55_4⟩ := bc5 BK134.out))
   go_ret
   exact ⟨zf, zb⟩
  rw [if_neg c53] at H
  have ⟨c53b0, c53b1⟩ := zn c53
  by_cases c56 : a0_2 = 3
  ·rw [if_pos c56] at H
   have ⟨c56b0, c56b1⟩ := ze c56
   clear c56
   obtain rfl := Option.some.inj H
   go_enter Tryz.func104, Tryz.ntmps104
   go_wp2_with (((with_reducible refine qA9 (N := 1) rfl ?_); refine boxZ 1 #[.string a0_0, .int .i64 a0_1, .int .i64 a0_2, .bool a0_3, .slice A0_4 l0_4.length c0_4] 95 ?_; intro gb134 hg w57 hbox hb; have BK134 := qA0.mk (hbox); have GW134 := zg w gb134; have GE134 := zg w gb134; replace HB := zB hb; clear hb hbox hg; obtain ⟨hcz58_0, hcz58_1, hcz58_2, hcz58_3, hcz58_4, hfz58_0, hfz58_1, hfz58_2, hfz58_3, hfz58_4⟩ := bc5 BK134.out))
   go_ret
   exact ⟨zf, zb⟩
  rw [if_neg c56] at H
  have ⟨c56b0, c56b1⟩ := zn c56
  by_cases c59 : a0_2 = 5
  rotate_left
  ·rw [if_neg c59] at H
   have ⟨c59b0, c59b1⟩ := zn c59
   obtain rfl := Option.some.inj H
   go_enter Tryz.func104, Tryz.ntmps104
   go_wp2_with (((with_reducible refine qA9 (N := 1) rfl ?_); refine boxZ 1 #[.string a0_0, .int .i64 a0_1, .int .i64 a0_2, .bool a0_3, .slice A0_4 l0_4.length c0_4] 95 ?_; intro gb134 hg w62 hbox hb; have BK134 := qA0.mk (hbox); have GW134 := zg w gb134; have GE134 := zg w gb134; replace HB := zB hb; clear hb hbox hg; obtain ⟨hcz63_0, hcz63_1, hcz63_2, hcz63_3, hcz63_4, hfz63_0, hfz63_1, hfz63_2, hfz63_3, hfz63_4⟩ := bc5 BK134.out))
   go_ret
   exact ⟨zf, zb⟩
  rw [if_pos c59] at H
  have ⟨c59b0, c59b1⟩ := ze c59
  clear c59
  obtain rfl := Option.some.inj H
  go_enter Tryz.func104, Tryz.ntmps104
  go_wp2_with (((with_reducible refine qA9 (N := 1) rfl ?_); refine boxZ 1 #[.string a0_0, .int .i64 a0_1, .int .i64 a0_2, .bool a0_3, .slice A0_4 l0_4.length c0_4] 95 ?_; intro gb134 hg w60 hbox hb; have BK134 := qA0.mk (hbox); have GW134 := zg w gb134; have GE134 := zg w gb134; replace HB := zB hb; clear hb hbox hg; obtain ⟨hcz61_0, hcz61_1, hcz61_2, hcz61_3, hcz61_4, hfz61_0, hfz61_1, hfz61_2, hfz61_3, hfz61_4⟩ := bc5 BK134.out))
  go_ret
  exact ⟨zf, zb⟩
 rw [if_pos c2] at H
 have c2b0 := decide_eq_true c2
 clear c2
 by_cases c3 : a0_2 = 2
 ·rw [if_pos c3] at H
  have ⟨c3b0, c3b1⟩ := ze c3
  clear c3
  by_cases c4 : a0_1 ≤ 6
  rotate_left
  ·rw [if_neg c4] at H
   have c4b0 := decide_eq_false c4
   clear c4
   obtain rfl := Option.some.inj H
   go_enter Tryz.func104, Tryz.ntmps104
   go_wp2_with (((with_reducible refine qA9 (N := 1) rfl ?_); refine boxZ 1 #[.string a0_0, .int .i64 a0_1, .int .i64 a0_2, .bool a0_3, .slice A0_4 l0_4.length c0_4] 95 ?_; intro gb134 hg w13 hbox hb; have BK134 := qA0.mk (hbox); have GW134 := zg w gb134; have GE134 := zg w gb134; replace HB := zB hb; clear hb hbox hg; obtain ⟨hcz14_0, hcz14_1, hcz14_2, hcz14_3, hcz14_4, hfz14_0, hfz14_1, hfz14_2, hfz14_3, hfz14_4⟩ := bc5 BK134.out))
   go_ret
   exact ⟨zf, zb⟩
  rw [if_pos c4] at H
  have c4b0 := decide_eq_true c4
  clear c4
  by_cases c5 : a0_3 = true
  rotate_left
  ·replace c5 := Bool.eq_false_iff.mpr c5
   subst c5
   rw [zj] at H
   obtain rfl := Option.some.inj H
   go_enter Tryz.func104, Tryz.ntmps104
   go_wp2_with (((with_reducible refine qA9 (N := 1) rfl ?_); refine boxZ 1 #[.string a0_0, .int .i64 a0_1, .int .i64 a0_2, .bool false, .slice A0_4 l0_4.length c0_4] 95 ?_; intro gb134 hg w11 hbox hb; have BK134 := qA0.mk (hbox); have GW134 := zg w gb134; have GE134 := zg w gb134; replace HB := zB hb; clear hb hbox hg; obtain ⟨hcz12_0, hcz12_1, hcz12_2, hcz12_3, hcz12_4, hfz12_0, hfz12_1, hfz12_2, hfz12_3, hfz12_4⟩ := bc5 BK134.out))
   go_ret
   exact ⟨zf, zb⟩
  subst c5
  rw [if_pos rfl] at H
  by_cases c6 : a0_1 = 2
  rotate_left
  ·rw [if_neg c6] at H
   have ⟨c6b0, c6b1⟩ := zn c6
   obtain rfl := Option.some.inj H
   go_enter Tryz.func104, Tryz.ntmps104
   go_wp2_with (((with_reducible refine qA9 (N := 1) rfl ?_); refine boxZ 1 #[.string a0_0, .int .i64 a0_1, .int .i64 a0_2, .bool true, .slice A0_4 l0_4.length c0_4] 95 ?_; intro gb134 hg w9 hbox hb; have BK134 := qA0.mk (hbox); have GW134 := zg w gb134; have GE134 := zg w gb134; replace HB := zB hb; clear hb hbox hg; obtain ⟨hcz10_0, hcz10_1, hcz10_2, hcz10_3, hcz10_4, hfz10_0, hfz10_1, hfz10_2, hfz10_3, hfz10_4⟩ := bc5 BK134.out))
   go_ret
   exact ⟨zf, zb⟩
  rw [if_pos c6] at H
  have ⟨c6b0, c6b1⟩ := ze c6
  clear c6
  obtain rfl := Option.some.inj H
  go_enter Tryz.func104, Tryz.ntmps104
  go_wp2_with (((with_reducible refine qA9 (N := 1) rfl ?_); refine boxZ 1 #[.string a0_0, .int .i64 a0_1, .int .i64 a0_2, .bool true, .slice A0_4 l0_4.length c0_4] 95 ?_; intro gb134 hg w7 hbox hb; have BK134 := qA0.mk (hbox); have GW134 := zg w gb134; have GE134 := zg w gb134; replace HB := zB hb; clear hb hbox hg; obtain ⟨hcz8_0, hcz8_1, hcz8_2, hcz8_3, hcz8_4, hfz8_0, hfz8_1, hfz8_2, hfz8_3, hfz8_4⟩ := bc5 BK134.out))
  go_ret
  exact ⟨zf, zb⟩
 rw [if_neg c3] at H
 have ⟨c3b0, c3b1⟩ := zn c3
 by_cases c15 : a0_2 = 3
 ·rw [if_pos c15] at H
  have ⟨c15b0, c15b1⟩ := ze c15
  clear c15
  by_cases c16 : a0_1 ≤ 6
  rotate_left
  ·rw [if_neg c16] at H
   have c16b0 := decide_eq_false c16
   clear c16
   obtain rfl := Option.some.inj H
   go_enter Tryz.func104, Tryz.ntmps104
   go_wp2_with (((with_reducible refine qA9 (N := 1) rfl ?_); refine boxZ 1 #[.string a0_0, .int .i64 a0_1, .int .i64 a0_2, .bool a0_3, .slice A0_4 l0_4.length c0_4] 95 ?_; intro gb134 hg w25 hbox hb; have BK134 := qA0.mk (hbox); have GW134 := zg w gb134; have GE134 := zg w gb134; replace HB := zB hb; clear hb hbox hg; obtain ⟨hcz26_0, hcz26_1, hcz26_2, hcz26_3, hcz26_4, hfz26_0, hfz26_1, hfz26_2, hfz26_3, hfz26_4⟩ := bc5 BK134.out))
   go_ret
   exact ⟨zf, zb⟩
  rw [if_pos c16] at H
  have c16b0 := decide_eq_true c16
  clear c16
  by_cases c17 : a0_3 = true
  rotate_left
  ·replace c17 := Bool.eq_false_iff.mpr c17
   subst c17
   rw [zj] at H
   obtain rfl := Option.some.inj H
   go_enter Tryz.func104, Tryz.ntmps104
   go_wp2_with (((with_reducible refine qA9 (N := 1) rfl ?_); refine boxZ 1 #[.string a0_0, .int .i64 a0_1, .int .i64 a0_2, .bool false, .slice A0_4 l0_4.length c0_4] 95 ?_; intro gb134 hg w23 hbox hb; have BK134 := qA0.mk (hbox); have GW134 := zg w gb134; have GE134 := zg w gb134; replace HB := zB hb; clear hb hbox hg; obtain ⟨hcz24_0, hcz24_1, hcz24_2, hcz24_3, hcz24_4, hfz24_0, hfz24_1, hfz24_2, hfz24_3, hfz24_4⟩ := bc5 BK134.out))
   go_ret
   exact ⟨zf, zb⟩
  subst c17
  rw [if_pos rfl] at H
  by_cases c18 : a0_1 = 2
  rotate_left
  ·rw [if_neg c18] at H
   have ⟨c18b0, c18b1⟩ := zn c18
   obtain rfl := Option.some.inj H
   go_enter Tryz.func104, Tryz.ntmps104
   go_wp2_with (((with_reducible refine qA9 (N := 1) rfl ?_); refine boxZ 1 #[.string a0_0, .int .i64 a0_1, .int .i64 a0_2, .bool true, .slice A0_4 l0_4.length c0_4] 95 ?_; intro gb134 hg w21 hbox hb; have BK134 := qA0.mk (hbox); have GW134 := zg w gb134; have GE134 := zg w gb134; replace HB := zB hb; clear hb hbox hg; obtain ⟨hcz22_0, hcz22_1, hcz22_2, hcz22_3, hcz22_4, hfz22_0, hfz22_1, hfz22_2, hfz22_3, hfz22_4⟩ := bc5 BK134.out))
   go_ret
   exact ⟨zf, zb⟩
  rw [if_pos c18] at H
  have ⟨c18b0, c18b1⟩ := ze c18
  clear c18
  obtain rfl := Option.some.inj H
  go_enter Tryz.func104, Tryz.ntmps104
  go_wp2_with (((with_reducible refine qA9 (N := 1) rfl ?_); refine boxZ 1 #[.string a0_0, .int .i64 a0_1, .int .i64 a0_2, .bool true, .slice A0_4 l0_4.length c0_4] 95 ?_; intro gb134 hg w19 hbox hb; have BK134 := qA0.mk (hbox); have GW134 := zg w gb134; have GE134 := zg w gb134; replace HB := zB hb; clear hb hbox hg; obtain ⟨hcz20_0, hcz20_1, hcz20_2, hcz20_3, hcz20_4, hfz20_0, hfz20_1, hfz20_2, hfz20_3, hfz20_4⟩ := bc5 BK134.out))
  go_ret
  exact ⟨zf, zb⟩
 rw [if_neg c15] at H
 have ⟨c15b0, c15b1⟩ := zn c15
 by_cases c27 : a0_2 = 5
 ·rw [if_pos c27] at H
  have ⟨c27b0, c27b1⟩ := ze c27
  clear c27
  by_cases c28 : a0_1 ≤ 6
  rotate_left
  ·rw [if_neg c28] at H
   have c28b0 := decide_eq_false c28
   clear c28
   obtain rfl := Option.some.inj H
   go_enter Tryz.func104, Tryz.ntmps104
   go_wp2_with (((with_reducible refine qA9 (N := 1) rfl ?_); refine boxZ 1 #[.string a0_0, .int .i64 a0_1, .int .i64 a0_2, .bool a0_3, .slice A0_4 l0_4.length c0_4] 95 ?_; intro gb134 hg w37 hbox hb; have BK134 := qA0.mk (hbox); have GW134 := zg w gb134; have GE134 := zg w gb134; replace HB := zB hb; clear hb hbox hg; obtain ⟨hcz38_0, hcz38_1, hcz38_2, hcz38_3, hcz38_4, hfz38_0, hfz38_1, hfz38_2, hfz38_3, hfz38_4⟩ := bc5 BK134.out))
   go_ret
   exact ⟨zf, zb⟩
  rw [if_pos c28] at H
  have c28b0 := decide_eq_true c28
  clear c28
  by_cases c29 : a0_3 = true
  rotate_left
  ·replace c29 := Bool.eq_false_iff.mpr c29
   subst c29
   rw [zj] at H
   obtain rfl := Option.some.inj H
   go_enter Tryz.func104, Tryz.ntmps104
   go_wp2_with (((with_reducible refine qA9 (N := 1) rfl ?_); refine boxZ 1 #[.string a0_0, .int .i64 a0_1, .int .i64 a0_2, .bool false, .slice A0_4 l0_4.length c0_4] 95 ?_; intro gb134 hg w35 hbox hb; have BK134 := qA0.mk (hbox); have GW134 := zg w gb134; have GE134 := zg w gb134; replace HB := zB hb; clear hb hbox hg; obtain ⟨hcz36_0, hcz36_1, hcz36_2, hcz36_3, hcz36_4, hfz36_0, hfz36_1, hfz36_2, hfz36_3, hfz36_4⟩ := bc5 BK134.out))
   go_ret
   exact ⟨zf, zb⟩
  subst c29
  rw [if_pos rfl] at H
  by_cases c30 : a0_1 = 2
  rotate_left
  ·rw [if_neg c30] at H
   have ⟨c30b0, c30b1⟩ := zn c30
   obtain rfl := Option.some.inj H
   go_enter Tryz.func104, Tryz.ntmps104
   go_wp2_with (((with_reducible refine qA9 (N := 1) rfl ?_); refine boxZ 1 #[.string a0_0, .int .i64 a0_1, .int .i64 a0_2, .bool true, .slice A0_4 l0_4.length c0_4] 95 ?_; intro gb134 hg w33 hbox hb; have BK134 := qA0.mk (hbox); have GW134 := zg w gb134; have GE134 := zg w gb134; replace HB := zB hb; clear hb hbox hg; obtain ⟨hcz34_0, hcz34_1, hcz34_2, hcz34_3, hcz34_4, hfz34_0, hfz34_1, hfz34_2, hfz34_3, hfz34_4⟩ := bc5 BK134.out))
   go_ret
   exact ⟨zf, zb⟩
  rw [if_pos c30] at H
  have ⟨c30b0, c30b1⟩ := ze c30
  clear c30
  obtain rfl := Option.some.inj H
  go_enter Tryz.func104, Tryz.ntmps104
  go_wp2_with (((with_reducible refine qA9 (N := 1) rfl ?_); refine boxZ 1 #[.string a0_0, .int .i64 a0_1, .int .i64 a0_2, .bool true, .slice A0_4 l0_4.length c0_4] 95 ?_; intro gb134 hg w31 hbox hb; have BK134 := qA0.mk (hbox); have GW134 := zg w gb134; have GE134 := zg w gb134; replace HB := zB hb; clear hb hbox hg; obtain ⟨hcz32_0, hcz32_1, hcz32_2, hcz32_3, hcz32_4, hfz32_0, hfz32_1, hfz32_2, hfz32_3, hfz32_4⟩ := bc5 BK134.out))
  go_ret
  exact ⟨zf, zb⟩
 rw [if_neg c27] at H
 have ⟨c27b0, c27b1⟩ := zn c27
 by_cases c39 : a0_1 ≤ 6
 rotate_left
 ·rw [if_neg c39] at H
  have c39b0 := decide_eq_false c39
  clear c39
  obtain rfl := Option.some.inj H
  go_enter Tryz.func104, Tryz.ntmps104
  go_wp2_with (((with_reducible refine qA9 (N := 1) rfl ?_); refine boxZ 1 #[.string a0_0, .int .i64 a0_1, .int .i64 a0_2, .bool a0_3, .slice A0_4 l0_4.length c0_4] 95 ?_; intro gb134 hg w51 hbox hb; have BK134 := qA0.mk (hbox); have GW134 := zg w gb134; have GE134 := zg w gb134; replace HB := zB hb; clear hb hbox hg; obtain ⟨hcz52_0, hcz52_1, hcz52_2, hcz52_3, hcz52_4, hfz52_0, hfz52_1, hfz52_2, hfz52_3, hfz52_4⟩ := bc5 BK134.out))
  go_ret
  exact ⟨zf, zb⟩
 rw [if_pos c39] at H
 have c39b0 := decide_eq_true c39
 clear c39
 by_cases c40 : a0_2 = 6
 rotate_left
 ·rw [if_neg c40] at H
  have ⟨c40b0, c40b1⟩ := zn c40
  obtain rfl := Option.some.inj H
  go_enter Tryz.func104, Tryz.ntmps104
  go_wp2_with (((with_reducible refine qA9 (N := 1) rfl ?_); refine boxZ 1 #[.string a0_0, .int .i64 a0_1, .int .i64 a0_2, .bool a0_3, .slice A0_4 l0_4.length c0_4] 95 ?_; intro gb134 hg w49 hbox hb; have BK134 := qA0.mk (hbox); have GW134 := zg w gb134; have GE134 := zg w gb134; replace HB := zB hb; clear hb hbox hg; obtain ⟨hcz50_0, hcz50_1, hcz50_2, hcz50_3, hcz50_4, hfz50_0, hfz50_1, hfz50_2, hfz50_3, hfz50_4⟩ := bc5 BK134.out))
  go_ret
  exact ⟨zf, zb⟩
 rw [if_pos c40] at H
 have ⟨c40b0, c40b1⟩ := ze c40
 clear c40
 by_cases c41 : a0_3 = true
 rotate_left
 ·replace c41 := Bool.eq_false_iff.mpr c41
  subst c41
  rw [zj] at H
  obtain rfl := Option.some.inj H
  go_enter Tryz.func104, Tryz.ntmps104
  go_wp2_with (((with_reducible refine qA9 (N := 1) rfl ?_); refine boxZ 1 #[.string a0_0, .int .i64 a0_1, .int .i64 a0_2, .bool false, .slice A0_4 l0_4.length c0_4] 95 ?_; intro gb134 hg w47 hbox hb; have BK134 := qA0.mk (hbox); have GW134 := zg w gb134; have GE134 := zg w gb134; replace HB := zB hb; clear hb hbox hg; obtain ⟨hcz48_0, hcz48_1, hcz48_2, hcz48_3, hcz48_4, hfz48_0, hfz48_1, hfz48_2, hfz48_3, hfz48_4⟩ := bc5 BK134.out))
  go_ret
  exact ⟨zf, zb⟩
 subst c41
 rw [if_pos rfl] at H
 by_cases c42 : a0_1 = 2
 rotate_left
 ·rw [if_neg c42] at H
  have ⟨c42b0, c42b1⟩ := zn c42
  obtain rfl := Option.some.inj H
  go_enter Tryz.func104, Tryz.ntmps104
  go_wp2_with (((with_reducible refine qA9 (N := 1) rfl ?_); refine boxZ 1 #[.string a0_0, .int .i64 a0_1, .int .i64 a0_2, .bool true, .slice A0_4 l0_4.length c0_4] 95 ?_; intro gb134 hg w45 hbox hb; have BK134 := qA0.mk (hbox); have GW134 := zg w gb134; have GE134 := zg w gb134; replace HB := zB hb; clear hb hbox hg; obtain ⟨hcz46_0, hcz46_1, hcz46_2, hcz46_3, hcz46_4, hfz46_0, hfz46_1, hfz46_2, hfz46_3, hfz46_4⟩ := bc5 BK134.out))
  go_ret
  exact ⟨zf, zb⟩
 rw [if_pos c42] at H
 have ⟨c42b0, c42b1⟩ := ze c42
 clear c42
 obtain rfl := Option.some.inj H
 go_enter Tryz.func104, Tryz.ntmps104
 go_wp2_with (((with_reducible refine qA9 (N := 1) rfl ?_); refine boxZ 1 #[.string a0_0, .int .i64 a0_1, .int .i64 a0_2, .bool true, .slice A0_4 l0_4.length c0_4] 95 ?_; intro gb134 hg w43 hbox hb; have BK134 := qA0.mk (hbox); have GW134 := zg w gb134; have GE134 := zg w gb134; replace HB := zB hb; clear hb hbox hg; obtain ⟨hcz44_0, hcz44_1, hcz44_2, hcz44_3, hcz44_4, hfz44_0, hfz44_1, hfz44_2, hfz44_3, hfz44_4⟩ := bc5 BK134.out))
 go_ret
 exact ⟨zf, zb⟩
mutual
def qBB.j0 : Nat → Int → Int → Int → Int → ByteArray → Int → Int → Bool → List (S134) → Option (Int)
 | 0, _, _, _, _, _, _, _, _, _ => none
 | k + 1, x3, x4, x5, x6, x136000, x136001, x136002, x136003, x136004 => qBB.l0 k x3 x4 x5 x6 x136004 (x136004.length : Int) 0 x136000 x136001 x136002 x136003 x136004
def qBB.l0 : Nat → Int → Int → Int → Int → List (S134) → Int → Int → ByteArray → Int → Int → Bool → List (S134) → Option (Int)
 | 0, _, _, _, _, _, _, _, _, _, _, _, _ => none
 | k + 1, x3, x4, x5, x6, x43, x44, x45, x136000, x136001, x136002, x136003, x136004 => if x45 < x44 then (if 0 ≤ x45 then (if x45 < (x43.length : Int) then (if ((qCN x43 x45).f0) < x3 then (qBB.j2 k x3 x4 x5 x6 x45 x43 x44 x45 true x136000 x136001 x136002 x136003 x136004 ((qCN x43 x45).f0) ((qCN x43 x45).f1)) else (if ((qCN x43 x45).f0) > x4 then (qBB.j2 k x3 x4 x5 x6 x45 x43 x44 x45 true x136000 x136001 x136002 x136003 x136004 ((qCN x43 x45).f0) ((qCN x43 x45).f1)) else (if ((qCN x43 x45).f1) < x5 then (qBB.j2 k x3 x4 x5 x6 x45 x43 x44 x45 true x136000 x136001 x136002 x136003 x136004 ((qCN x43 x45).f0) ((qCN x43 x45).f1)) else (qBB.j2 k x3 x4 x5 x6 x45 x43 x44 x45 (decide (((qCN x43 x45).f1) > x6)) x136000 x136001 x136002 x136003 x136004 ((qCN x43 x45).f0) ((qCN x43 x45).f1))))) else (none)) else (none)) else (some 0)
def qBB.j2 : Nat → Int → Int → Int → Int → Int → List (S134) → Int → Int → Bool → ByteArray → Int → Int → Bool → List (S134) → Int → Int → Option (Int)
 | 0, _, _, _, _, _, _, _, _, _, _, _, _, _, _, _, _ => none
 | k + 1, x3, x4, x5, x6, x7, x43, x44, x45, x50, x136000, x136001, x136002, x136003, x136004, x144000, x144001 => if x50 = true then (some 2) else (if x7 > 0 then (if 0 ≤ (wrap64 (x7 - 1)) then (if (wrap64 (x7 - 1)) < (x136004.length : Int) then (if x144000 ≤ ((qCN x136004 (wrap64 (x7 - 1))).f0) then (some 9) else (qBB.l0 k x3 x4 x5 x6 x43 x44 (wrap64 (x45 + 1)) x136000 x136001 x136002 x136003 x136004)) else (none)) else (none)) else (qBB.l0 k x3 x4 x5 x6 x43 x44 (wrap64 (x45 + 1)) x136000 x136001 x136002 x136003 x136004))
end
def qBB.f (k : Nat) (a0_0 : ByteArray) (a0_1 : Int) (a0_2 : Int) (a0_3 : Bool) (l0_4 : List (S134)) : Option (Int) := (qCZ.f a0_0).bind fun t136 => (if t136 = true then ((qDK.f a0_0 a0_1 a0_2 a0_3 l0_4).bind fun t137 => (if t137 = true then (if (l0_4.length : Int) = 0 then (some 13) else (if (l0_4.length : Int) > 20 then (some 2) else ((qD2.f a0_1).bind fun bt138 => ((qD2.f a0_2).bind fun bt140 => (if a0_3 = true then (qBB.j0 k bt138.1 bt138.2 0 1000000 a0_0 a0_1 a0_2 a0_3 l0_4) else (qBB.j0 k bt138.1 bt138.2 bt140.1 bt140.2 a0_0 a0_1 a0_2 a0_3 l0_4)))))) else (some 8))) else (some 15))
theorem qBB.calls (k : Nat) (a0_0 : ByteArray) (a0_1 : Int) (a0_2 : Int) (a0_3 : Bool) (A0_4 : Option Addr) (c0_4 : Nat) (l0_4 : List (S134)) (r : Int) (w : World) (hr0_4 : Kd.C k134 w A0_4 l0_4.length l0_4) (hc0_4 : l0_4.length ≤ c0_4) (h : qBB.f k a0_0 a0_1 a0_2 a0_3 l0_4 = some r) :
  Calls Tryz.prog 73 #[.agg #[.string a0_0, .int .i64 a0_1, .int .i64 a0_2, .bool a0_3, .slice A0_4 l0_4.length c0_4]] w fun e w' => e = .returned (.int .i64 r) ∧ Below w.heap.size w w' := by
 have hu95 := Tryz.underlying95
 have hu134 := Tryz.underlying134
 have HR0_4 := qA0.mk hr0_4
 have HC0_4 := qA0.mk hc0_4
 clear hr0_4 hc0_4
 have HB := qA0.mk (Below.refl w.heap.size w)
 have H := h
 unfold qBB.f at H
 clear h
 replace H := zi H
 obtain ⟨t136, A20, H⟩ := H
 have A2 := qA0.mk A20
 clear A20
 by_cases c3 : t136 = true
 rotate_left
 ·replace c3 := Bool.eq_false_iff.mpr c3
  subst c3
  rw [zj] at H
  obtain rfl := Option.some.inj H
  go_enter Tryz.func73, Tryz.ntmps73
  go_wp2_with (first | ((with_reducible refine qA9 (N := 1) rfl ?_); refine boxZ 1 #[.string a0_0, .int .i64 a0_1, .int .i64 a0_2, .bool a0_3, .slice A0_4 l0_4.length c0_4] 95 ?_; intro gb135 hg w66 hbox hb; have BK135 := qA0.mk (hbox); have GW135 := zg w gb135; have GE135 := zg w gb135; replace HB := zB hb; clear hb hbox hg; obtain ⟨hcz67_0, hcz67_1, hcz67_2, hcz67_3, hcz67_4, hfz67_0, hfz67_1, hfz67_2, hfz67_3, hfz67_4⟩ := bc5 BK135.out) | (go_at_call 103; (with_reducible refine (qCZ.calls a0_0 false _ A2.out).mono ?_); rintro e w68 ⟨rfl, hb⟩; replace BK135 := zK BK135 hb; replace HB := zB hb; (try clear hb hk); (try clear hb)))
  go_ret
  exact ⟨zf, zb⟩
 subst c3
 rw [if_pos rfl] at H
 replace H := zi H
 obtain ⟨t137, A40, H⟩ := H
 have A4 := qA0.mk A40
 clear A40
 by_cases c5 : t137 = true
 rotate_left
 ·replace c5 := Bool.eq_false_iff.mpr c5
  subst c5
  rw [zj] at H
  obtain rfl := Option.some.inj H
  go_enter Tryz.func73, Tryz.ntmps73
  go_wp2_with (first | ((with_reducible refine qA9 (N := 1) rfl ?_); refine boxZ 1 #[.string a0_0, .int .i64 a0_1, .int .i64 a0_2, .bool a0_3, .slice A0_4 l0_4.length c0_4] 95 ?_; intro gb135 hg w61 hbox hb; have BK135 := qA0.mk (hbox); have GW135 := zg w gb135; have GE135 := zg w gb135; replace HB := zB hb; clear hb hbox hg; obtain ⟨hcz62_0, hcz62_1, hcz62_2, hcz62_3, hcz62_4, hfz62_0, hfz62_1, hfz62_2, hfz62_3, hfz62_4⟩ := bc5 BK135.out) | (go_at_call 103; (with_reducible refine (qCZ.calls a0_0 true _ A2.out).mono ?_); rintro e w63 ⟨rfl, hb⟩; replace BK135 := zK BK135 hb; replace HB := zB hb; (try clear hb hk); (try clear hb); obtain ⟨hcz64_0, hcz64_1, hcz64_2, hcz64_3, hcz64_4, hfz64_0, hfz64_1, hfz64_2, hfz64_3, hfz64_4⟩ := bc5 BK135.out) | (go_at_call 104; (with_reducible refine (qDK.calls a0_0 a0_1 a0_2 a0_3 _ _ l0_4 false _ ?side1 ?side2 A4.out).mono ?_); (case side1 => repeat (first | exact (Kd.qAE HR0_4.out HB.out) | refine sC ?_)); (case side2 => exact HC0_4.out); rintro e w65 ⟨rfl, hb⟩; replace BK135 := zK BK135 hb; replace HB := zB hb; (try clear hb hk); (try clear hb)))
  go_ret
  exact ⟨zf, zb⟩
 subst c5
 rw [if_pos rfl] at H
 by_cases c6 : (l0_4.length : Int) = 0
 ·rw [if_pos c6] at H
  have ⟨c6b0, c6b1⟩ := ze c6
  clear c6
  obtain rfl := Option.some.inj H
  go_enter Tryz.func73, Tryz.ntmps73
  go_wp2_with (first | ((with_reducible refine qA9 (N := 1) rfl ?_); refine boxZ 1 #[.string a0_0, .int .i64 a0_1, .int .i64 a0_2, .bool a0_3, .slice A0_4 l0_4.length c0_4] 95 ?_; intro gb135 hg w7 hbox hb; have BK135 := qA0.mk (hbox); have GW135 := zg w gb135; have GE135 := zg w gb135; replace HB := zB hb; clear hb hbox hg; obtain ⟨hcz8_0, hcz8_1, hcz8_2, hcz8_3, hcz8_4, hfz8_0, hfz8_1, hfz8_2, hfz8_3, hfz8_4⟩ := bc5 BK135.out) | (go_at_call 103; (with_reducible refine (qCZ.calls a0_0 true _ A2.out).mono ?_); rintro e w9 ⟨rfl, hb⟩; replace BK135 := zK BK135 hb; replace HB := zB hb; (try clear hb hk); (try clear hb); obtain ⟨hcz10_0, hcz10_1, hcz10_2, hcz10_3, hcz10_4, hfz10_0, hfz10_1, hfz10_2, hfz10_3, hfz10_4⟩ := bc5 BK135.out) | (go_at_call 104; (with_reducible refine (qDK.calls a0_0 a0_1 a0_2 a0_3 _ _ l0_4 true _ ?side1 ?side2 A4.out).mono ?_); (case side1 => repeat (first | exact (Kd.qAE HR0_4.out HB.out) | refine sC ?_)); (case side2 => exact HC0_4.out); rintro e w11 ⟨rfl, hb⟩; replace BK135 := zK BK135 hb; replace HB := zB hb; (try clear hb hk); (try clear hb); obtain ⟨hcz12_0, hcz12_1, hcz12_2, hcz12_3, hcz12_4, hfz12_0, hfz12_1, hfz12_2, hfz12_3, hfz12_4⟩ := bc5 BK135.out))
  go_ret
  exact ⟨zf, zb⟩
 rw [if_neg c6] at H
 have ⟨c6b0, c6b1⟩ := zn c6
 have c6b2 : ¬ (l0_4 = []) := fun h_ => c6 (by rw [h_]; rfl)
 by_cases c13 : (l0_4.length : Int) > 20
 ·rw [if_pos c13] at H
  have c13b0 := decide_eq_true c13
  have c13b1 : decide (20 < l0_4.length) = true := decide_eq_true (by omega)
  clear c13
  obtain rfl := Option.some.inj H
  go_enter Tryz.func73, Tryz.ntmps73
  go_wp2_with (first | ((with_reducible refine qA9 (N := 1) rfl ?_); refine boxZ 1 #[.string a0_0, .int .i64 a0_1, .int .i64 a0_2, .bool a0_3, .slice A0_4 l0_4.length c0_4] 95 ?_; intro gb135 hg w14 hbox hb; have BK135 := qA0.mk (hbox); have GW135 := zg w gb135; have GE135 := zg w gb135; replace HB := zB hb; clear hb hbox hg; obtain ⟨hcz15_0, hcz15_1, hcz15_2, hcz15_3, hcz15_4, hfz15_0, hfz15_1, hfz15_2, hfz15_3, hfz15_4⟩ := bc5 BK135.out) | (go_at_call 103; (with_reducible refine (qCZ.calls a0_0 true _ A2.out).mono ?_); rintro e w16 ⟨rfl, hb⟩; replace BK135 := zK BK135 hb; replace HB := zB hb; (try clear hb hk); (try clear hb); obtain ⟨hcz17_0, hcz17_1, hcz17_2, hcz17_3, hcz17_4, hfz17_0, hfz17_1, hfz17_2, hfz17_3, hfz17_4⟩ := bc5 BK135.out) | (go_at_call 104; (with_reducible refine (qDK.calls a0_0 a0_1 a0_2 a0_3 _ _ l0_4 true _ ?side1 ?side2 A4.out).mono ?_); (case side1 => repeat (first | exact (Kd.qAE HR0_4.out HB.out) | refine sC ?_)); (case side2 => exact HC0_4.out); rintro e w18 ⟨rfl, hb⟩; replace BK135 := zK BK135 hb; replace HB := zB hb; (try clear hb hk); (try clear hb); obtain ⟨hcz19_0, hcz19_1, hcz19_2, hcz19_3, hcz19_4, hfz19_0, hfz19_1, hfz19_2, hfz19_3, hfz19_4⟩ := bc5 BK135.out))
  go_ret
  exact ⟨zf, zb⟩
 rw [if_neg c13] at H
 have c13b0 := decide_eq_false c13
 have c13b1 : decide (20 < l0_4.length) = false := decide_eq_false (by omega)
 clear c13
 replace H := zi H
 obtain ⟨⟨t138, t139⟩, A200, H⟩ := H
 dsimp only at H
 have A20 := qA0.mk A200
 clear A200
 replace H := zi H
 obtain ⟨⟨t140, t141⟩, A210, H⟩ := H
 dsimp only at H
 have A21 := qA0.mk A210
 clear A210
 have HC22 := qA0.mk H
 clear H
 go_enter Tryz.func73, Tryz.ntmps73
 go_upto_if 41 with (first | ((with_reducible refine qA9 (N := 1) rfl ?_); refine boxZ 1 #[.string a0_0, .int .i64 a0_1, .int .i64 a0_2, .bool a0_3, .slice A0_4 l0_4.length c0_4] 95 ?_; intro gb135 hg w23 hbox hb; have BK135 := qA0.mk (hbox); have GW135 := zg w gb135; have GE135 := zg w gb135; replace HB := zB hb; clear hb hbox hg; obtain ⟨hcz24_0, hcz24_1, hcz24_2, hcz24_3, hcz24_4, hfz24_0, hfz24_1, hfz24_2, hfz24_3, hfz24_4⟩ := bc5 BK135.out) | (go_at_call 103; (with_reducible refine (qCZ.calls a0_0 true _ A2.out).mono ?_); rintro e w25 ⟨rfl, hb⟩; replace BK135 := zK BK135 hb; replace HB := zB hb; (try clear hb hk); (try clear hb); obtain ⟨hcz26_0, hcz26_1, hcz26_2, hcz26_3, hcz26_4, hfz26_0, hfz26_1, hfz26_2, hfz26_3, hfz26_4⟩ := bc5 BK135.out) | (go_at_call 104; (with_reducible refine (qDK.calls a0_0 a0_1 a0_2 a0_3 _ _ l0_4 true _ ?side1 ?side2 A4.out).mono ?_); (case side1 => repeat (first | exact (Kd.qAE HR0_4.out HB.out) | refine sC ?_)); (case side2 => exact HC0_4.out); rintro e w27 ⟨rfl, hb⟩; replace BK135 := zK BK135 hb; replace HB := zB hb; (try clear hb hk); (try clear hb); obtain ⟨hcz28_0, hcz28_1, hcz28_2, hcz28_3, hcz28_4, hfz28_0, hfz28_1, hfz28_2, hfz28_3, hfz28_4⟩ := bc5 BK135.out) | (go_at_call 105; (with_reducible refine (qD2.calls a0_1 t138 t139 _ A20.out).mono ?_); rintro e w' ⟨rfl, ⟨nd, rfl⟩⟩; (try first | exact ⟨rfl, _, World.drewN_drewN _ _ _⟩ | exact ⟨rfl, _, Eq.trans (World.drewN_drewN _ _ _) (congrArg (World.drewN _) (Nat.add_assoc _ _ _))⟩)) | (go_at_call 105; (with_reducible refine (qD2.calls a0_2 t140 t141 _ A21.out).mono ?_); rintro e w' ⟨rfl, ⟨nd, rfl⟩⟩; (try first | exact ⟨rfl, _, World.drewN_drewN _ _ _⟩ | exact ⟨rfl, _, Eq.trans (World.drewN_drewN _ _ _) (congrArg (World.drewN _) (Nat.add_assoc _ _ _))⟩)))
 go_cut [5, 6] (fun v5 v6 wc => ∃ (kq : Nat) (x5_21 : Int) (x6_21 : Int), v5 = .int .i64 x5_21 ∧ v6 = .int .i64 x6_21 ∧ qA0 (qBB.j0 kq t138 t139 x5_21 x6_21 a0_0 a0_1 a0_2 a0_3 l0_4 = some r) ∧ qA0 (kq ≤ k) ∧ qA0 (wc.heap[gb135]? = some (.cells #[.string a0_0, .int .i64 a0_1, .int .i64 a0_2, .bool a0_3, (.slice A0_4 l0_4.length c0_4)] 95 (0, 0))) ∧ qA0 (Below w.heap.size w wc))
 case first =>
  have H := HC22.out
  clear HC22
  by_cases c29 : a0_3 = true
  ·subst c29
   rw [if_pos rfl] at H
   have H' := qA0.mk H
   clear H
   go_wp2
   go_meet
   case rel => exact ⟨_, (0), (1000000), zs, zs, H', ⟨by first | omega | exact Nat.le_refl _⟩, ⟨zk BK135⟩, ⟨zb⟩⟩
  replace c29 := Bool.eq_false_iff.mpr c29
  subst c29
  rw [zj] at H
  have H' := qA0.mk H
  clear H
  go_wp2
  go_meet
  case rel => exact ⟨_, (t140), (t141), zs, zs, H', ⟨by first | omega | exact Nat.le_refl _⟩, ⟨zk BK135⟩, ⟨zb⟩⟩
 clear HC22 c6 c6b0 c6b1 c6b2 c13b0 c13b1 hcz24_0 hcz24_1 hcz24_2 hcz24_3 hcz24_4 hcz26_0 hcz26_1 hcz26_2 hcz26_3 hcz26_4 hcz28_0 hcz28_1 hcz28_2 hcz28_3 hcz28_4 hfz24_0 hfz24_1 hfz24_2 hfz24_3 hfz24_4 hfz26_0 hfz26_1 hfz26_2 hfz26_3 hfz26_4 hfz28_0 hfz28_1 hfz28_2 hfz28_3 hfz28_4
 obtain ⟨kq, x5_21, x6_21, rfl, rfl, HA, HJ21, BK135, HB⟩ := hcut
 obtain _ | kj21 := kq
 ·exact absurd HA.out (by simp [qBB.j0])
 have H := HA.out
 clear HA
 simp only [qBB.j0] at H
 have H' := qA0.mk H
 clear H
 obtain ⟨hcz30_0, hcz30_1, hcz30_2, hcz30_3, hcz30_4, hfz30_0, hfz30_1, hfz30_2, hfz30_3, hfz30_4⟩ := bc5 BK135.out
 go_wp2
 go_loopg [45] kj21 (fun kq v45 w' => ∃ (x45_2 : Int), v45 = .int .i64 x45_2 ∧ qA0 (qBB.l0 kq t138 t139 x5_21 x6_21 l0_4 (l0_4.length : Int) x45_2 a0_0 a0_1 a0_2 a0_3 l0_4 = some r) ∧ qA0 (kq ≤ kj21) ∧ qA0 (w'.heap[gb135]? = some (.cells #[.string a0_0, .int .i64 a0_1, .int .i64 a0_2, .bool a0_3, (.slice A0_4 l0_4.length c0_4)] 95 (0, 0))) ∧ qA0 (Below w.heap.size w w'))
 case atStart => exact ⟨(0), zs, H', ⟨Nat.le_refl _⟩, ⟨zk BK135⟩, ⟨zb⟩⟩
 clear H' hcz30_0 hcz30_1 hcz30_2 hcz30_3 hcz30_4 hfz30_0 hfz30_1 hfz30_2 hfz30_3 hfz30_4
 obtain ⟨x45_2, rfl, HA, HK2, BK135, HB⟩ := hrel
 obtain _ | k2 := gk
 ·exact absurd HA.out (by simp [qBB.l0])
 have H := HA.out
 clear HA
 simp only [qBB.l0] at H
 by_cases c31 : x45_2 < (l0_4.length : Int)
 rotate_left
 ·rw [if_neg c31] at H
  have c31b0 := decide_eq_false c31
  clear c31
  obtain rfl := Option.some.inj H
  go_wp2
  go_ret
  exact ⟨zf, zb⟩
 rw [if_pos c31] at H
 have c31b0 := decide_eq_true c31
 clear c31
 by_cases c32 : 0 ≤ x45_2
 rotate_left
 ·rw [if_neg c32] at H
  cases H
 rw [if_pos c32] at H
 have c32b0 := decide_eq_true c32
 clear c32
 by_cases c33 : x45_2 < (l0_4.length : Int)
 rotate_left
 ·rw [if_neg c33] at H
  cases H
 rw [if_pos c33] at H
 have c33b0 := decide_eq_true c33
 clear c33
 have HC34 := qA0.mk H
 clear H
 have p142 : 0 ≤ (x45_2 : Int) := zd
 have q142 : x45_2 < (l0_4.length : Int) := zd
 obtain ⟨ad142, e142, hx142_0, hx142_1⟩ := at_T134 HR0_4.out x45_2 p142 q142
 cases e142
 (try replace hx142_0 := zh hx142_0)
 replace hx142_1 := zh hx142_1
 replace p142 := eq_true p142
 replace q142 := eq_true q142
 go_upto_region 16 with (((with_reducible refine qA9 (N := 8) rfl ?_); refine boxZ 8 #[.int .i64 0, .int .i64 0] 134 ?_; intro gb143 hg w35 hbox hb; have BK143 := qA0.mk (hbox); have GW143 := zg w gb143; have GE143 := zg w gb143; have NB135_143 := zl BK135 gb143; have NB143_135 := zu BK135 gb143; replace BK135 := zK BK135 hb; replace HB := zB hb; clear hb hbox hg; have hnb36 := NB143_135.out; have hnc36 := NB135_143.out; obtain ⟨hcz37_0, hcz37_1, hfz37_0, hfz37_1⟩ := bc2 BK143.out))
 go_cut [50] (fun v50 wc => ∃ (kq : Nat) (x50_33 : Bool), v50 = .bool x50_33 ∧ qA0 (qBB.j2 kq t138 t139 x5_21 x6_21 x45_2 l0_4 (l0_4.length : Int) x45_2 x50_33 a0_0 a0_1 a0_2 a0_3 l0_4 ((qCN l0_4 x45_2).f0) ((qCN l0_4 x45_2).f1) = some r) ∧ qA0 (kq ≤ k2) ∧ qA0 (wc.heap[gb135]? = some (.cells #[.string a0_0, .int .i64 a0_1, .int .i64 a0_2, .bool a0_3, (.slice (some ad142) l0_4.length c0_4)] 95 (0, 0))) ∧ qA0 (wc.heap[gb143]? = some (.cells #[.int .i64 ((qCN l0_4 x45_2).f0), .int .i64 ((qCN l0_4 x45_2).f1)] 134 (0, 0))) ∧ qA0 (Below w.heap.size w wc))
 case first =>
  have H := HC34.out
  clear HC34
  by_cases c38 : ((qCN l0_4 x45_2).f0) < t138
  ·rw [if_pos c38] at H
   have c38b0 := decide_eq_true c38
   clear c38
   (first | rw [c38b0] | (simp only [qC9, qCB]; rw [c38b0]) | skip)
   have H' := qA0.mk H
   clear H
   have hnb39 := NB143_135.out
   have hnc39 := NB135_143.out
   obtain ⟨hcz40_0, hcz40_1, hfz40_0, hfz40_1⟩ := bc2 BK143.out
   go_wp2
   go_meet
   case rel => exact ⟨_, (true), zs, H', ⟨by have := HJ21.out; have := HK2.out; first | omega | exact Nat.le_refl _⟩, ⟨by refine zf2 ?_ NB135_143; (with_reducible repeat refine st ?_); exact BK135.out⟩, ⟨zp2 BK143⟩, ⟨zb⟩⟩
  rw [if_neg c38] at H
  have c38b0 := decide_eq_false c38
  clear c38
  (first | rw [c38b0] | (simp only [qC9, qCB]; rw [c38b0]) | skip)
  by_cases c41 : ((qCN l0_4 x45_2).f0) > t139
  ·rw [if_pos c41] at H
   have c41b0 := decide_eq_true c41
   clear c41
   have H' := qA0.mk H
   clear H
   have hnb42 := NB143_135.out
   have hnc42 := NB135_143.out
   obtain ⟨hcz43_0, hcz43_1, hfz43_0, hfz43_1⟩ := bc2 BK143.out
   go_wp2
   go_meet
   case rel => exact ⟨_, (true), zs, H', ⟨by have := HJ21.out; have := HK2.out; first | omega | exact Nat.le_refl _⟩, ⟨by refine zf2 ?_ NB135_143; (with_reducible repeat refine st ?_); exact BK135.out⟩, ⟨zp2 BK143⟩, ⟨zb⟩⟩
  rw [if_neg c41] at H
  have c41b0 := decide_eq_false c41
  clear c41
  by_cases c44 : ((qCN l0_4 x45_2).f1) < x5_21
  rotate_left
  ·rw [if_neg c44] at H
   have c44b0 := decide_eq_false c44
   clear c44
   have H' := qA0.mk H
   clear H
   have hnb47 := NB143_135.out
   have hnc47 := NB135_143.out
   obtain ⟨hcz48_0, hcz48_1, hfz48_0, hfz48_1⟩ := bc2 BK143.out
   go_wp2
   go_meet
   case rel => exact ⟨_, (decide (((qCN l0_4 x45_2).f1) > x6_21)), zs, H', ⟨by have := HJ21.out; have := HK2.out; first | omega | exact Nat.le_refl _⟩, ⟨by refine zf2 ?_ NB135_143; (with_reducible repeat refine st ?_); exact BK135.out⟩, ⟨zp2 BK143⟩, ⟨zb⟩⟩
  rw [if_pos c44] at H
  have c44b0 := decide_eq_true c44
  clear c44
  have H' := qA0.mk H
  clear H
  have hnb45 := NB143_135.out
  have hnc45 := NB135_143.out
  obtain ⟨hcz46_0, hcz46_1, hfz46_0, hfz46_1⟩ := bc2 BK143.out
  go_wp2
  go_meet
  case rel => exact ⟨_, (true), zs, H', ⟨by have := HJ21.out; have := HK2.out; first | omega | exact Nat.le_refl _⟩, ⟨by refine zf2 ?_ NB135_143; (with_reducible repeat refine st ?_); exact BK135.out⟩, ⟨zp2 BK143⟩, ⟨zb⟩⟩
 clear HC34 c31b0 c32b0 c33b0 hcz37_0 hcz37_1 hfz37_0 hfz37_1 hx142_0 hx142_1 p142 q142
 obtain ⟨kq, x50_33, rfl, HA, HJ33, BK135, BK143, HB⟩ := hcut
 obtain _ | kj33 := kq
 ·exact absurd HA.out (by simp [qBB.j2])
 have H := HA.out
 clear HA
 simp only [qBB.j2] at H
 by_cases c49 : x50_33 = true
 ·subst c49
  rw [if_pos rfl] at H
  obtain rfl := Option.some.inj H
  go_wp2
  go_ret
  exact ⟨zf, zb⟩
 replace c49 := Bool.eq_false_iff.mpr c49
 subst c49
 rw [zj] at H
 by_cases c50 : x45_2 > 0
 rotate_left
 ·rw [if_neg c50] at H
  have c50b0 := decide_eq_false c50
  clear c50
  have H' := qA0.mk H
  clear H
  go_wp2
  repeat (go_quiet (fail); try go_wp2)
  go_roundg kj33
  case measure => have := HJ21.out; have := HK2.out; have := HJ33.out; omega
  case rel => exact ⟨(wrap64 (x45_2 + 1)), zs, H', ⟨by have := HJ21.out; have := HK2.out; have := HJ33.out; omega⟩, ⟨zk BK135⟩, ⟨zb⟩⟩
 rw [if_pos c50] at H
 have c50b0 := decide_eq_true c50
 clear c50
 obtain ⟨ji51, hji51⟩ : ∃ j_ : Int, (wrap64 (x45_2 - 1)) = j_ := ⟨_, rfl⟩
 replace H : (if 0 ≤ (ji51) then (if (ji51) < (l0_4.length : Int) then (if ((qCN l0_4 x45_2).f0) ≤ ((qCN l0_4 (ji51)).f0) then (some 9) else (qBB.l0 kj33 t138 t139 x5_21 x6_21 l0_4 (l0_4.length : Int) (wrap64 (x45_2 + 1)) a0_0 a0_1 a0_2 a0_3 l0_4)) else (none)) else (none)) = some r := by first | (rw [hji51] at H; exact H) | (simp only [hji51] at H ⊢; exact H)
 have hji51w : (IntKind.i64.wrap (x45_2 - 1)) = ji51 := (qC9 _).trans hji51
 by_cases c52 : 0 ≤ (ji51)
 rotate_left
 ·rw [if_neg c52] at H
  cases H
 rw [if_pos c52] at H
 have c52b0 := decide_eq_true c52
 clear c52
 by_cases c53 : (ji51) < (l0_4.length : Int)
 rotate_left
 ·rw [if_neg c53] at H
  cases H
 rw [if_pos c53] at H
 have c53b0 := decide_eq_true c53
 clear c53
 by_cases c54 : ((qCN l0_4 x45_2).f0) ≤ ((qCN l0_4 (ji51)).f0)
 ·rw [if_pos c54] at H
  have c54b0 := decide_eq_true c54
  clear c54
  obtain rfl := Option.some.inj H
  have hnb55 := NB143_135.out
  have hnc55 := NB135_143.out
  obtain ⟨hcz56_0, hcz56_1, hfz56_0, hfz56_1⟩ := bc2 BK143.out
  obtain ⟨hcz57_0, hcz57_1, hcz57_2, hcz57_3, hcz57_4, hfz57_0, hfz57_1, hfz57_2, hfz57_3, hfz57_4⟩ := bc5 BK135.out
  have p144 : 0 ≤ ((ji51) : Int) := zd
  have q144 : (ji51) < (l0_4.length : Int) := zd
  obtain ⟨ad144, e144, hx144_0, hx144_1⟩ := at_T134 HR0_4.out (ji51) p144 q144
  obtain rfl : ad142 = ad144 := (by injection e144)
  (try replace hx144_0 := zh hx144_0)
  replace hx144_1 := zh hx144_1
  replace p144 := eq_true p144
  replace q144 := eq_true q144
  go_wp2
  repeat (go_quiet (fail); try go_wp2)
  go_ret
  exact ⟨by first | rfl | (simp [qDI, qDH] <;> rfl) | (simp only [← hji51]; first | rfl | (simp [qDI, qDH] <;> rfl)) | (simp [*, qDI, qDH] <;> rfl), zb⟩
 rw [if_neg c54] at H
 have c54b0 := decide_eq_false c54
 clear c54
 have H' := qA0.mk H
 clear H
 have hnb58 := NB143_135.out
 have hnc58 := NB135_143.out
 obtain ⟨hcz59_0, hcz59_1, hfz59_0, hfz59_1⟩ := bc2 BK143.out
 obtain ⟨hcz60_0, hcz60_1, hcz60_2, hcz60_3, hcz60_4, hfz60_0, hfz60_1, hfz60_2, hfz60_3, hfz60_4⟩ := bc5 BK135.out
 have p144 : 0 ≤ ((ji51) : Int) := zd
 have q144 : (ji51) < (l0_4.length : Int) := zd
 obtain ⟨ad144, e144, hx144_0, hx144_1⟩ := at_T134 HR0_4.out (ji51) p144 q144
 obtain rfl : ad142 = ad144 := (by injection e144)
 (try replace hx144_0 := zh hx144_0)
 replace hx144_1 := zh hx144_1
 replace p144 := eq_true p144
 replace q144 := eq_true q144
 go_wp2
 repeat (go_quiet (fail); try go_wp2)
 go_roundg kj33
 case measure => have := HJ21.out; have := HK2.out; have := HJ33.out; omega
 case rel => exact ⟨(wrap64 (x45_2 + 1)), zs, H', ⟨by have := HJ21.out; have := HK2.out; have := HJ33.out; omega⟩, ⟨zk BK135⟩, ⟨zb⟩⟩
end
end Go.Proofs.YtpafpefealopoaaGreat.PPopMakes
end
