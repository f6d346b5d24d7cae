/- A part of the proof of PopMakes: texts that were printed, words, walks. No condition. -/
import Derived.Test.YtpafpefealopoaaGreatC1
import Derived.Test.YtpafpefealopoaaGreatC10
import Derived.Test.YtpafpefealopoaaGreatC11
import Derived.BigQuiet
set_option linter.unusedVariables false
set_option linter.unusedSimpArgs false
section
namespace Go.Proofs.YtpafpefealopoaaGreat.PPopMakes
noncomputable section
open Go.RowKit Go.Proofs.YtpafpefealopoaaGreatW.PrintWords Go.Proofs.YtpafpefealopoaaGreatW.PrintLast Go.Proofs.YtpafpefealopoaaGreatW.PrintMore
set_option maxHeartbeats 8000000
set_option maxRecDepth 100000
attribute [local go_sem high] eqA86
def qD7.l0 : Nat → List (S86) → List (S86) → Int → Int → Option (Bool)
 | 0, _, _, _, _ => none
 | k + 1, x0, x1, x12, x13 => if x13 < x12 then (if 0 ≤ x13 then (if x13 < (x0.length : Int) then (if x13 < (x1.length : Int) then (if (!(((qCX x0 x13).f0) == ((qCX x1 x13).f0)) || (!((((qCX x0 x13).f1).toList) == (((qCX x1 x13).f1).toList)) || ((!(((qCX x0 x13).f2.f0) == ((qCX x1 x13).f2.f0)) || (!(((qCX x0 x13).f2.f1) == ((qCX x1 x13).f2.f1))))))) = true then (some false) else (qD7.l0 k x0 x1 x12 (wrap64 (x13 + 1)))) else (none)) else (none)) else (none)) else (some true)
def qD7.f (k : Nat) (l0 : List (S86)) (l1 : List (S86)) : Option (Bool) := if (l0.length : Int) = (l1.length : Int) then (qD7.l0 k l0 l1 (l0.length : Int) 0) else (some false)
theorem qD7.calls (k : Nat) (A0 : Option Addr) (c0 : Nat) (l0 : List (S86)) (A1 : Option Addr) (c1 : Nat) (l1 : List (S86)) (r : Bool) (w : World) (hr0 : Kd.C k86 w A0 l0.length l0) (hc0 : l0.length ≤ c0) (hr1 : Kd.C k86 w A1 l1.length l1) (hc1 : l1.length ≤ c1) (h : qD7.f k l0 l1 = some r) :
  Calls Tryz.prog 34 #[.slice A0 l0.length c0, .slice A1 l1.length c1] w fun e w' => e = .returned (.bool r) ∧ qAX w w' := by
 have hu86 := Tryz.underlying86
 have HR0 := qA0.mk hr0
 have HC0 := qA0.mk hc0
 clear hr0 hc0
 have HR1 := qA0.mk hr1
 have HC1 := qA0.mk hc1
 clear hr1 hc1
 have H := h
 unfold qD7.f at H
 clear h
 by_cases c3 : (l0.length : Int) = (l1.length : Int)
 rotate_left
 ·rw [if_neg c3] at H
  have ⟨c3b0, c3b1⟩ := zn c3
  have c3b2 : (l0.length == l1.length) = false := by first | simpa using c3 | (simp at c3 ⊢; omega)
  obtain rfl := Option.some.inj H
  go_enter Tryz.func34, Tryz.ntmps34
  go_wp2
  go_ret
  exact ⟨zs, zD⟩
 rw [if_pos c3] at H
 have ⟨c3b0, c3b1⟩ := ze c3
 have c3b2 : (l0.length == l1.length) = true := by first | simpa using c3 | (simp at c3 ⊢; omega)
 clear c3
 have H' := qA0.mk H
 clear H
 go_enter Tryz.func34, Tryz.ntmps34
 go_wp2
 go_loopg [13] k (fun kq v13 w' => ∃ (x13_1 : Int), v13 = .int .i64 x13_1 ∧ qA0 (qD7.l0 kq l0 l1 (l0.length : Int) x13_1 = some r) ∧ qA0 (kq ≤ k) ∧ qAX w w')
 case atStart => exact ⟨(0), zs, H', ⟨Nat.le_refl _⟩, by repeat (first | exact qAX.refl _ | apply qAX.step)⟩
 clear H' c3b0 c3b1 c3b2
 obtain ⟨x13_1, rfl, HA, HK1, ⟨m1, rfl⟩⟩ := hrel
 obtain _ | k1 := gk
 ·exact absurd HA.out (by simp [qD7.l0])
 have H := HA.out
 clear HA
 simp only [qD7.l0] at H
 by_cases c4 : x13_1 < (l0.length : Int)
 rotate_left
 ·rw [if_neg c4] at H
  have c4b0 := decide_eq_false c4
  clear c4
  obtain rfl := Option.some.inj H
  go_wp2
  go_ret
  exact ⟨zs, zD⟩
 rw [if_pos c4] at H
 have c4b0 := decide_eq_true c4
 clear c4
 by_cases c5 : 0 ≤ x13_1
 rotate_left
 ·rw [if_neg c5] at H
  cases H
 rw [if_pos c5] at H
 have c5b0 := decide_eq_true c5
 clear c5
 by_cases c6 : x13_1 < (l0.length : Int)
 rotate_left
 ·rw [if_neg c6] at H
  cases H
 rw [if_pos c6] at H
 have c6b0 := decide_eq_true c6
 clear c6
 by_cases c7 : x13_1 < (l1.length : Int)
 rotate_left
 ·rw [if_neg c7] at H
  cases H
 rw [if_pos c7] at H
 have c7b0 := decide_eq_true c7
 clear c7
 by_cases c8 : (!(((qCX l0 x13_1).f0) == ((qCX l1 x13_1).f0)) || (!((((qCX l0 x13_1).f1).toList) == (((qCX l1 x13_1).f1).toList)) || ((!(((qCX l0 x13_1).f2.f0) == ((qCX l1 x13_1).f2.f0)) || (!(((qCX l0 x13_1).f2.f1) == ((qCX l1 x13_1).f2.f1))))))) = true
 ·rw [if_pos c8] at H
  have c8b0 : (!(((qCX l0 x13_1).f0) == ((qCX l1 x13_1).f0)) || (!((((qCX l0 x13_1).f1).toList) == (((qCX l1 x13_1).f1).toList)) || ((!(((qCX l0 x13_1).f2.f0) == ((qCX l1 x13_1).f2.f0)) || (!(((qCX l0 x13_1).f2.f1) == ((qCX l1 x13_1).f2.f1))))))) = true := c8
  clear c8
  obtain rfl := Option.some.inj H
  have p562 : 0 ≤ (x13_1 : Int) := zd
  have q562 : x13_1 < (l0.length : Int) := zd
  obtain ⟨ad562, e562, hx562_0, hx562_1, hx562_2, hx562_3⟩ := at_T86 HR0.out x13_1 p562 q562
  cases e562
  replace p562 := eq_true p562
  replace q562 := eq_true q562
  have p563 : 0 ≤ (x13_1 : Int) := zd
  have q563 : x13_1 < (l1.length : Int) := zd
  obtain ⟨ad563, e563, hx563_0, hx563_1, hx563_2, hx563_3⟩ := at_T86 HR1.out x13_1 p563 q563
  cases e563
  replace p563 := eq_true p563
  replace q563 := eq_true q563
  go_wp2
  repeat (go_quiet (fail); try go_wp2)
  go_ret
  exact ⟨zs, zD⟩
 rw [if_neg c8] at H
 have c8b0 : (!(((qCX l0 x13_1).f0) == ((qCX l1 x13_1).f0)) || (!((((qCX l0 x13_1).f1).toList) == (((qCX l1 x13_1).f1).toList)) || ((!(((qCX l0 x13_1).f2.f0) == ((qCX l1 x13_1).f2.f0)) || (!(((qCX l0 x13_1).f2.f1) == ((qCX l1 x13_1).f2.f1))))))) = false := by simpa using c8
 clear c8
 have H' := qA0.mk H
 clear H
 have p562 : 0 ≤ (x13_1 : Int) := zd
 have q562 : x13_1 < (l0.length : Int) := zd
 obtain ⟨ad562, e562, hx562_0, hx562_1, hx562_2, hx562_3⟩ := at_T86 HR0.out x13_1 p562 q562
 cases e562
 replace p562 := eq_true p562
 replace q562 := eq_true q562
 have p563 : 0 ≤ (x13_1 : Int) := zd
 have q563 : x13_1 < (l1.length : Int) := zd
 obtain ⟨ad563, e563, hx563_0, hx563_1, hx563_2, hx563_3⟩ := at_T86 HR1.out x13_1 p563 q563
 cases e563
 replace p563 := eq_true p563
 replace q563 := eq_true q563
 go_wp2
 repeat (go_quiet (fail); try go_wp2)
 go_roundg k1
 case measure => have := HK1.out; omega
 case rel => exact ⟨(wrap64 (x13_1 + 1)), zs, H', ⟨by have := HK1.out; omega⟩, by repeat (first | exact qAX.refl _ | apply qAX.step)⟩
def qCC.f (k : Nat) (a0_0 : Int) (l0_1 : List (S83)) (l0_2 : List (S86)) (a1_0 : Int) (l1_1 : List (S83)) (l1_2 : List (S86)) : Option (Bool) := if a0_0 = a1_0 then ((qD1.f k l0_1 l1_1).bind fun t566 => (if t566 = true then ((qD7.f k l0_2 l1_2).bind fun t567 => (some t567)) else (some false))) else (some false)
theorem qCC.calls (k : Nat) (a0_0 : Int) (A0_1 : Option Addr) (c0_1 : Nat) (l0_1 : List (S83)) (A0_2 : Option Addr) (c0_2 : Nat) (l0_2 : List (S86)) (a1_0 : Int) (A1_1 : Option Addr) (c1_1 : Nat) (l1_1 : List (S83)) (A1_2 : Option Addr) (c1_2 : Nat) (l1_2 : List (S86)) (r : Bool) (w : World) (hr0_1 : Kd.C k83 w A0_1 l0_1.length l0_1) (hc0_1 : l0_1.length ≤ c0_1) (hr0_2 : Kd.C k86 w A0_2 l0_2.length l0_2) (hc0_2 : l0_2.length ≤ c0_2) (hr1_1 : Kd.C k83 w A1_1 l1_1.length l1_1) (hc1_1 : l1_1.length ≤ c1_1) (hr1_2 : Kd.C k86 w A1_2 l1_2.length l1_2) (hc1_2 : l1_2.length ≤ c1_2) (h : qCC.f k a0_0 l0_1 l0_2 a1_0 l1_1 l1_2 = some r) :
  Calls Tryz.prog 12 #[.agg #[.int .i64 a0_0, .slice A0_1 l0_1.length c0_1, .slice A0_2 l0_2.length c0_2], .agg #[.int .i64 a1_0, .slice A1_1 l1_1.length c1_1, .slice A1_2 l1_2.length c1_2]] w fun e w' => e = .returned (.bool r) ∧ Below w.heap.size w w' := by
 have hu35 := Tryz.underlying35
 have HR0_1 := qA0.mk hr0_1
 have HC0_1 := qA0.mk hc0_1
 clear hr0_1 hc0_1
 have HR0_2 := qA0.mk hr0_2
 have HC0_2 := qA0.mk hc0_2
 clear hr0_2 hc0_2
 have HR1_1 := qA0.mk hr1_1
 have HC1_1 := qA0.mk hc1_1
 clear hr1_1 hc1_1
 have HR1_2 := qA0.mk hr1_2
 have HC1_2 := qA0.mk hc1_2
 clear hr1_2 hc1_2
 have HB := qA0.mk (Below.refl w.heap.size w)
 have H := h
 unfold qCC.f at H
 clear h
 by_cases c3 : a0_0 = a1_0
 rotate_left
 ·rw [if_neg c3] at H
  have ⟨c3b0, c3b1⟩ := zn c3
  obtain rfl := Option.some.inj H
  go_enter Tryz.func12, Tryz.ntmps12
  go_wp2_with (first | ((with_reducible refine qA9 (N := 2) rfl ?_); refine boxZ 2 #[.int .i64 a0_0, .slice A0_1 l0_1.length c0_1, .slice A0_2 l0_2.length c0_2] 35 ?_; intro gb564 hg w17 hbox hb; have BK564 := qA0.mk (hbox); have GW564 := zg w gb564; have GE564 := zg w gb564; replace HB := zB hb; clear hb hbox hg) | ((with_reducible refine qA9 (N := 3) rfl ?_); refine boxZ 3 #[.int .i64 a1_0, .slice A1_1 l1_1.length c1_1, .slice A1_2 l1_2.length c1_2] 35 ?_; intro gb565 hg w18 hbox hb; have BK565 := qA0.mk (hbox); have GW565 := zg w gb565; have GE565 := zg w gb565; have NB564_565 := zl BK564 gb565; have NB565_564 := zu BK564 gb565; replace BK564 := zK BK564 hb; replace HB := zB hb; clear hb hbox hg; have hnb19 := NB564_565.out; have hnc19 := NB565_564.out; obtain ⟨hcz20_0, hcz20_1, hcz20_2, hfz20_0, hfz20_1, hfz20_2⟩ := bc3 BK564.out; obtain ⟨hcz21_0, hcz21_1, hcz21_2, hfz21_0, hfz21_1, hfz21_2⟩ := bc3 BK565.out))
  go_ret
  exact ⟨zf, zb⟩
 rw [if_pos c3] at H
 have ⟨c3b0, c3b1⟩ := ze c3
 clear c3
 replace H := zi H
 obtain ⟨t566, A40, H⟩ := H
 have A4 := qA0.mk A40
 clear A40
 by_cases c5 : t566 = true
 rotate_left
 ·replace c5 := Bool.eq_false_iff.mpr c5
  subst c5
  rw [zj] at H
  obtain rfl := Option.some.inj H
  go_enter Tryz.func12, Tryz.ntmps12
  go_wp2_with (first | ((with_reducible refine qA9 (N := 2) rfl ?_); refine boxZ 2 #[.int .i64 a0_0, .slice A0_1 l0_1.length c0_1, .slice A0_2 l0_2.length c0_2] 35 ?_; intro gb564 hg w12 hbox hb; have BK564 := qA0.mk (hbox); have GW564 := zg w gb564; have GE564 := zg w gb564; replace HB := zB hb; clear hb hbox hg) | ((with_reducible refine qA9 (N := 3) rfl ?_); refine boxZ 3 #[.int .i64 a1_0, .slice A1_1 l1_1.length c1_1, .slice A1_2 l1_2.length c1_2] 35 ?_; intro gb565 hg w13 hbox hb; have BK565 := qA0.mk (hbox); have GW565 := zg w gb565; have GE565 := zg w gb565; have NB564_565 := zl BK564 gb565; have NB565_564 := zu BK564 gb565; replace BK564 := zK BK564 hb; replace HB := zB hb; clear hb hbox hg; have hnb14 := NB564_565.out; have hnc14 := NB565_564.out; obtain ⟨hcz15_0, hcz15_1, hcz15_2, hfz15_0, hfz15_1, hfz15_2⟩ := bc3 BK564.out; obtain ⟨hcz16_0, hcz16_1, hcz16_2, hfz16_0, hfz16_1, hfz16_2⟩ := bc3 BK565.out) | (go_at_call 33; (with_reducible refine (qD1.calls k _ _ l0_1 _ _ l1_1 false _ ?side1 ?side2 ?side3 ?side4 A4.out).mono ?_); (case side1 => repeat (first | exact (Kd.qAE HR0_1.out HB.out) | refine sC ?_)); (case side2 => exact HC0_1.out); (case side3 => repeat (first | exact (Kd.qAE HR1_1.out HB.out) | refine sC ?_)); (case side4 => exact HC1_1.out); rintro e w' ⟨rfl, ⟨nd, rfl⟩⟩))
  go_ret
  exact ⟨zf, zb⟩
 subst c5
 rw [if_pos rfl] at H
 replace H := zi H
 obtain ⟨t567, A60, H⟩ := H
 have A6 := qA0.mk A60
 clear A60
 obtain rfl := Option.some.inj H
 go_enter Tryz.func12, Tryz.ntmps12
 go_wp2_with (first | ((with_reducible refine qA9 (N := 2) rfl ?_); refine boxZ 2 #[.int .i64 a0_0, .slice A0_1 l0_1.length c0_1, .slice A0_2 l0_2.length c0_2] 35 ?_; intro gb564 hg w7 hbox hb; have BK564 := qA0.mk (hbox); have GW564 := zg w gb564; have GE564 := zg w gb564; replace HB := zB hb; clear hb hbox hg) | ((with_reducible refine qA9 (N := 3) rfl ?_); refine boxZ 3 #[.int .i64 a1_0, .slice A1_1 l1_1.length c1_1, .slice A1_2 l1_2.length c1_2] 35 ?_; intro gb565 hg w8 hbox hb; have BK565 := qA0.mk (hbox); have GW565 := zg w gb565; have GE565 := zg w gb565; have NB564_565 := zl BK564 gb565; have NB565_564 := zu BK564 gb565; replace BK564 := zK BK564 hb; replace HB := zB hb; clear hb hbox hg; have hnb9 := NB564_565.out; have hnc9 := NB565_564.out; obtain ⟨hcz10_0, hcz10_1, hcz10_2, hfz10_0, hfz10_1, hfz10_2⟩ := bc3 BK564.out; obtain ⟨hcz11_0, hcz11_1, hcz11_2, hfz11_0, hfz11_1, hfz11_2⟩ := bc3 BK565.out) | (go_at_call 33; (with_reducible refine (qD1.calls k _ _ l0_1 _ _ l1_1 true _ ?side1 ?side2 ?side3 ?side4 A4.out).mono ?_); (case side1 => repeat (first | exact (Kd.qAE HR0_1.out HB.out) | refine sC ?_)); (case side2 => exact HC0_1.out); (case side3 => repeat (first | exact (Kd.qAE HR1_1.out HB.out) | refine sC ?_)); (case side4 => exact HC1_1.out); rintro e w' ⟨rfl, ⟨nd, rfl⟩⟩) | (go_at_call 34; (with_reducible refine (qD7.calls k _ _ l0_2 _ _ l1_2 t567 _ ?side1 ?side2 ?side3 ?side4 A6.out).mono ?_); (case side1 => repeat (first | exact (Kd.qAE HR0_2.out zb) | refine sC ?_)); (case side2 => exact HC0_2.out); (case side3 => repeat (first | exact (Kd.qAE HR1_2.out zb) | refine sC ?_)); (case side4 => exact HC1_2.out); rintro e w' ⟨rfl, ⟨nd, rfl⟩⟩))
 go_ret
 exact ⟨zf, zb⟩
def qCG.l0 : Nat → Int → List (S35) → Int → Int → Option (Int)
 | 0, _, _, _, _ => none
 | k + 1, x3, x6, x7, x8 => if x8 < x7 then (if 0 ≤ x8 then (if x8 < (x6.length : Int) then (qCG.l0 k (wrap64 (x3 + (((qE0 x6 x8).f1).length : Int))) x6 x7 (wrap64 (x8 + 1))) else (none)) else (none)) else (some x3)
def qCG.f (k : Nat) (l0 : List (S35)) : Option (Int) := qCG.l0 k 0 l0 (l0.length : Int) 0
theorem qCG.calls (k : Nat) (A0 : Option Addr) (c0 : Nat) (l0 : List (S35)) (r : Int) (w : World) (hr0 : Kd.C k35 w A0 l0.length l0) (hc0 : l0.length ≤ c0) (h : qCG.f k l0 = some r) :
  Calls Tryz.prog 13 #[.slice A0 l0.length c0] w fun e w' => e = .returned (.int .i64 r) ∧ Below w.heap.size w w' := by
 have hu35 := Tryz.underlying35
 have HR0 := qA0.mk hr0
 have HC0 := qA0.mk hc0
 clear hr0 hc0
 have HB := qA0.mk (Below.refl w.heap.size w)
 have H := h
 unfold qCG.f at H
 clear h
 have H' := qA0.mk H
 clear H
 go_enter Tryz.func13, Tryz.ntmps13
 go_wp2
 go_loopg [3, 8] k (fun kq v3 v8 w' => ∃ (x3_1 : Int) (x8_1 : Int), v3 = .int .i64 x3_1 ∧ v8 = .int .i64 x8_1 ∧ qA0 (qCG.l0 kq x3_1 l0 (l0.length : Int) x8_1 = some r) ∧ qA0 (kq ≤ k) ∧ qA0 (Below w.heap.size w w'))
 case atStart => exact ⟨(0), (0), zs, zs, H', ⟨Nat.le_refl _⟩, ⟨zb⟩⟩
 clear H'
 obtain ⟨x3_1, x8_1, rfl, rfl, HA, HK1, HB⟩ := hrel
 obtain _ | k1 := gk
 ·exact absurd HA.out (by simp [qCG.l0])
 have H := HA.out
 clear HA
 simp only [qCG.l0] at H
 by_cases c2 : x8_1 < (l0.length : Int)
 rotate_left
 ·rw [if_neg c2] at H
  have c2b0 := decide_eq_false c2
  clear c2
  obtain rfl := Option.some.inj H
  go_wp2
  go_ret
  exact ⟨zf, zb⟩
 rw [if_pos c2] at H
 have c2b0 := decide_eq_true c2
 clear c2
 by_cases c3 : 0 ≤ x8_1
 rotate_left
 ·rw [if_neg c3] at H
  cases H
 rw [if_pos c3] at H
 have c3b0 := decide_eq_true c3
 clear c3
 by_cases c4 : x8_1 < (l0.length : Int)
 rotate_left
 ·rw [if_neg c4] at H
  cases H
 rw [if_pos c4] at H
 have c4b0 := decide_eq_true c4
 clear c4
 have H' := qA0.mk H
 clear H
 have p568 : 0 ≤ (x8_1 : Int) := zd
 have q568 : x8_1 < (l0.length : Int) := zd
 obtain ⟨ad568, A568_1, c568_1, A568_2, c568_2, e568, hx568_0, hx568_1, hx568_2, hl568_1, hi568_1, hl568_2, hi568_2⟩ := at_T35 HR0.out x8_1 p568 q568
 cases e568
 (try replace hx568_0 := zh hx568_0)
 replace hx568_1 := zh hx568_1
 replace hx568_2 := zh hx568_2
 have HR568_1 := qA0.mk hi568_1
 have HC568_1 := qA0.mk hl568_1
 clear hi568_1 hl568_1
 have HR568_2 := qA0.mk hi568_2
 have HC568_2 := qA0.mk hl568_2
 clear hi568_2 hl568_2
 replace p568 := eq_true p568
 replace q568 := eq_true q568
 go_wp2_with (((with_reducible refine qA9 (N := 5) rfl ?_); refine boxZ 5 #[.int .i64 0, .slice none 0 0, .slice none 0 0] 35 ?_; intro gb569 hg w5 hbox hb; have BK569 := qA0.mk (hbox); have GW569 := zg w gb569; have GE569 := zg w gb569; replace HB := zB hb; clear hb hbox hg; obtain ⟨hcz6_0, hcz6_1, hcz6_2, hfz6_0, hfz6_1, hfz6_2⟩ := bc3 BK569.out))
 go_roundg k1
 case measure => have := HK1.out; omega
 case rel => exact ⟨(wrap64 (x3_1 + (((qE0 l0 x8_1).f1).length : Int))), (wrap64 (x8_1 + 1)), zs, zs, H', ⟨by have := HK1.out; omega⟩, ⟨zb⟩⟩
theorem qFD {P : Program} {ops : Array Oper} {rest : List Oper} {o : Oper} {a : Act} {Q : Exit → Act → World → Prop} {W : World} {t : TypeId} {p x : Tmp} (ho : o.op = .store t (.tmp p) (.tmp x)) (hgd : o.guard = none) (hN : o.dst = none) {g : Nat} {u : Value} {cur : Array Value} {e : TypeId}
  (ha : a.eval (.tmp p) = .pointer (some ⟨g, 0, none⟩)) (hx : a.eval (.tmp x) = u) (hh : W.heap[g]? = some (.cells cur e (0, 0))) (seg : List Value) (hu : u.cells.toList = seg) (ht : (P.info? t).map (·.size) = some seg.length) (hl : cur.size = seg.length) (h1 : ∀ q ∈ seg, q.oneCell' = true)
  (h : ∀ w1, w1.heap[g]? = some (.cells seg.toArray e (0, 0)) → (∀ k, k ≠ g → w1.heap[k]? = W.heap[k]?) → (∀ B a, Below B a W → B ≤ g → Below B a w1) → wpList P ops Q rest a w1) : wpList P ops Q (o :: rest) a W := by
 have hrun := run_store_run (P := P) (o := 0) t u seg hh hu ht (by omega) h1
 obtain ⟨cur', h3, _, h5⟩ := setCells_row seg 0 W cur hh (by omega)
 obtain ⟨s1, s2, s3, s4⟩ := setCells_same g seg 0 W
 have e1 : cur' = seg.toArray := by
  apply Array.toList_inj.1
  rw [h5, List.take_zero, List.nil_append, List.drop_eq_nil_of_le (by simp; omega), List.append_nil]
 refine wpList_plain hgd fun K hK => ?_
 unfold Oper.wp execOp
 simp only [ho, ha, hx, Sem.run_bind, Sem.run_pure, Result.andThen_ok, hrun]
 show K (a.put o.dst undef) _
 rw [hN]
 exact hK a _ (h _ (e1 ▸ h3) (fun k hk => setCells_far seg 0 k hk) (fun B a HB hg => ⟨s1.trans HB.os, s2.trans HB.tape, s3.trans HB.output, by rw [s4]; exact HB.size, fun k hk => (setCells_far seg 0 k (by omega)).trans (HB.block k hk)⟩))
structure PA (w W : World) (gm : Nat) (cs : Array Value) (A0 : Option Addr) (l0 : List S76) (A1 : Option Addr) (l1 : List Int) (A2 : Option Addr) (l2 : List S56) : Prop where
 m : W.heap[gm]? = some (.cells cs 27 (0, 0))
 r0 : Kd.C k76 W A0 l0.length l0
 r1 : Kd.C (Kd.int .i64) W A1 l1.length l1
 r2 : Kd.C k56 W A2 l2.length l2
 b : Below w.heap.size w W
theorem PA.below {w W W' : World} {gm : Nat} {cs : Array Value} {A0 : Option Addr} {l0 : List S76} {A1 : Option Addr} {l1 : List Int} {A2 : Option Addr} {l2 : List S56} (h : PA w W gm cs A0 l0 A1 l1 A2 l2) (hb : Below W.heap.size W W') : PA w W' gm cs A0 l0 A1 l1 A2 l2 :=
 ⟨qAL h.m hb, Kd.qAE h.r0 hb, Kd.qAE h.r1 hb, Kd.qAE h.r2 hb, qBZ h.b hb⟩
structure PB (W : World) (g : Nat) (n : Int) (A : Option Addr) (c : Nat) (p : List S83) (B : Option Addr) (d : Nat) (q : List S86) : Prop where
 v : W.heap[g]? = some (.cells #[.int .i64 n, .slice A p.length c, .slice B q.length d] 35 (0, 0))
 r1 : Kd.C k83 W A p.length p
 r2 : Kd.C k86 W B q.length q
 c1 : p.length ≤ c
 c2 : q.length ≤ d
theorem PB.below {W W' : World} {g : Nat} {n : Int} {A : Option Addr} {c : Nat} {p : List S83} {B : Option Addr} {d : Nat} {q : List S86} (h : PB W g n A c p B d q) (hb : Below W.heap.size W W') : PB W' g n A c p B d q :=
 ⟨qAL h.v hb, Kd.qAE h.r1 hb, Kd.qAE h.r2 hb, h.c1, h.c2⟩
def memF (L : List S35) : Int := L.foldl (fun a v => wrap64 (a + (v.f1.length : Int))) 0
theorem memF_succ (L : List S35) (i : Nat) (h : i < L.length) : memF (L.take (i + 1)) = wrap64 (memF (L.take i) + ((qE0 L (i : Int)).f1.length : Int)) := by
 have e : L.take (i + 1) = L.take i ++ [qE0 L (i : Int)] := by
  rw [List.take_add_one, List.getElem?_eq_getElem h]; simp [qE0, h]
 unfold memF
 rw [e, List.foldl_append]; rfl
def qC4.F (k : Nat) (l0 : List S76) (a1_0 : Int) (l1_1 : List Int) (l1_2 : List S56) (a1_3 a2 a3 a4 : Int) : Prop :=
 ∃ (m f hh v0 : Int) (v1 : List S83) (v2 : List S86) (L : List S35) (t0 : List S76) (x0 : Int) (x1 : List S83) (x2 : List S86),
  qE4.f 0 = some t0 ∧ qAV.f k t0 0 [] [] 0 = some 11 ∧ qAG.f k l0 a1_0 l1_1 l1_2 a1_3 = some m ∧ qD8.f k l0 a1_0 l1_1 l1_2 a1_3 a2 a3 = some (v0, v1, v2, f) ∧ qC8.f k l0 a1_0 l1_1 l1_2 a1_3 a2 a4 = some (L, hh) ∧ qAV.f k l0 a1_0 l1_1 l1_2 a1_3 = some m ∧
  f = (if m = 0 ∧ (a3 < 0 ∨ 999 < a3) then 1 else m) ∧ hh = (if m = 0 ∧ (a4 < 0 ∨ 1000 < a4) then 1 else m) ∧ (f = 0 → qAP.f k l0 a1_0 l1_1 l1_2 a1_3 a2 a3 = some (x0, x1, x2)) ∧ (f ≠ 0 → x0 = 0 ∧ x1 = [] ∧ x2 = []) ∧
  qCC.f k v0 v1 v2 x0 x1 x2 = some true ∧
  (∀ j : Nat, j < L.length → hh = 0 ∧ ∃ y0 y1 y2, qAP.f k l0 a1_0 l1_1 l1_2 a1_3 a2 (j : Int) = some (y0, y1, y2) ∧ qCC.f k (qE0 L (j : Int)).f0 (qE0 L (j : Int)).f1 (qE0 L (j : Int)).f2 y0 y1 y2 = some true) ∧
  qCG.f k L = some (memF L) ∧ (hh = 0 → (L.length : Int) = a4)
def qC4.T22 : Bool × List (List Nat × List Nat) := (true, [([], []), ([0], [0]), ([1], [1]), ([2], [2]), ([2], [2]), ([2], [2]), ([2], [2]), ([2], [2]), ([4, 5, 6, 7, 2, 2], [2, 4, 5, 6, 7]), ([3, 8, 8, 2], [2, 3, 8]), ([9, 2], [2, 9]), ([2, 10], [2, 10])])
def qC4.B22 : List Nat := [0, 1, 3, 7, 7, 7, 7, 7, 247, 511, 1023, 2047]
theorem qC4.tab22 : rtab .any (opsOf Tryz.f3 22) = qC4.T22 := by kernel_rfl
theorem qC4.bits22 : qDW qC4.T22.2 qC4.B22 = true := by kernel_rfl
set_option maxHeartbeats 8000000 in
set_option maxRecDepth 100000 in
theorem qC4.calls (k : Nat) (A0 : Option Addr) (c0 : Nat) (l0 : List S76) (a1_0 : Int) (A1_1 : Option Addr) (c1_1 : Nat) (l1_1 : List Int) (A1_2 : Option Addr) (c1_2 : Nat) (l1_2 : List S56) (a1_3 a2 a3 a4 : Int) (w : World) (hr0 : Kd.C k76 w A0 l0.length l0) (hc0 : l0.length ≤ c0) (hr1 : Kd.C (Kd.int .i64) w A1_1 l1_1.length l1_1) (hc1 : l1_1.length ≤ c1_1) (hr2 : Kd.C k56 w A1_2 l1_2.length l1_2) (hc2 : l1_2.length ≤ c1_2) (h : qC4.F k l0 a1_0 l1_1 l1_2 a1_3 a2 a3 a4) :
  Calls Tryz.prog 3 #[.slice A0 l0.length c0, .agg #[.int .i64 a1_0, .slice A1_1 l1_1.length c1_1, .slice A1_2 l1_2.length c1_2, .int .i64 a1_3], .int .u64 a2, .int .i64 a3, .int .i64 a4] w fun e w' => e = .returned (.bool true) ∧ Below w.heap.size w w' := by
 have hu27 := Tryz.underlying27
 have hu35 := Tryz.underlying35
 obtain ⟨m, f, hh, v0, v1, v2, L, t0, x0, x1, x2, f1, f2, f3, f4, f5, f6, f7, f8, f9, f10, f11, f12, f13, f14⟩ := h
 have F1 := qA0.mk f1
 have F2 := qA0.mk f2
 have F3 := qA0.mk f3
 have F4 := qA0.mk f4
 have F5 := qA0.mk f5
 have F6 := qA0.mk f6
 have F7 := qA0.mk f7
 have F8 := qA0.mk f8
 have F9 := qA0.mk f9
 have F10 := qA0.mk f10
 have F11 := qA0.mk f11
 have F12 := qA0.mk f12
 have F13 := qA0.mk f13
 have F14 := qA0.mk f14
 clear f1 f2 f3 f4 f5 f6 f7 f8 f9 f10 f11 f12 f13 f14
 have HC0 := qA0.mk hc0
 have HC1 := qA0.mk hc1
 have HC2 := qA0.mk hc2
 have HR := qA0.mk (And.intro hr0 (And.intro hr1 hr2))
 clear hr0 hr1 hr2 hc0 hc1 hc2
 go_enter Tryz.func3, Tryz.ntmps3
 go_wp2_with ((with_reducible refine qA9 (N := 6) rfl ?_); (try (refine qBD (by rfl) ?_; dsimp only)); refine box_event ?hg (N := 6) ?hd (cs := #[.int .i64 a1_0, .slice A1_1 l1_1.length c1_1, .slice A1_2 l1_2.length c1_2, .int .i64 a1_3]) (t := 27) ?hr ?_; (case hd => rfl); (case hg => rfl); (case hr => first | (go_simp; done) | (go_simp; rfl)); intro gm hg w1 hbox hb; have HP : qA0 (PA w w1 gm #[.int .i64 a1_0, .slice A1_1 l1_1.length c1_1, .slice A1_2 l1_2.length c1_2, .int .i64 a1_3] A0 l0 A1_1 l1_1 A1_2 l1_2) := ⟨⟨hbox, Kd.qAE HR.out.1 hb, Kd.qAE HR.out.2.1 hb, Kd.qAE HR.out.2.2 hb, hb⟩⟩; clear hb hbox hg HR)
 refine (qE4.calls 0 t0 _ F1.out).mono ?_
 rintro e w2 ⟨vt, rfl, ho, hb⟩
 obtain ⟨At, ct, rfl⟩ := Kd.N_slice ho
 have HT := qA0.mk (And.intro (Kd.qFI ho).2.1 (Kd.qFI ho).2.2)
 have HQ := qA0.mk (HP.out.below hb)
 clear HP hb ho
 go_wp2_with fail
 refine (qAV.calls k At ct t0 0 none 0 [] none 0 [] 0 11 w2 HT.out.2 HT.out.1 (Kd.C_nil _ _) (Nat.le_refl _) (Kd.C_nil _ _) (Nat.le_refl _) F2.out).mono ?_
 rintro e w3 ⟨rfl, hb⟩
 have HP := qA0.mk (HQ.out.below hb)
 clear HQ hb HT
 have z0 : w3.cell? ⟨gm, 0, none⟩ = some (.int .i64 a1_0) := (qA1 HP.out.m 0).trans rfl; have z1 : w3.cell? ⟨gm, 1, none⟩ = some (.slice A1_1 l1_1.length c1_1) := (qA1 HP.out.m 1).trans rfl; have z2 : w3.cell? ⟨gm, 2, none⟩ = some (.slice A1_2 l1_2.length c1_2) := (qA1 HP.out.m 2).trans rfl; have z3 : w3.cell? ⟨gm, 3, none⟩ = some (.int .i64 a1_3) := (qA1 HP.out.m 3).trans rfl
 go_wp2_with fail
 refine (qAG.calls k A0 c0 l0 a1_0 A1_1 c1_1 l1_1 A1_2 c1_2 l1_2 a1_3 m w3 HP.out.r0 HC0.out HP.out.r1 HC1.out HP.out.r2 HC2.out F3.out).mono ?_
 rintro e w4 ⟨rfl, hb⟩
 have HQ := qA0.mk (HP.out.below hb)
 clear z0 z1 z2 z3
 clear HP hb
 have HP := HQ
 clear HQ
 have z0 : w4.cell? ⟨gm, 0, none⟩ = some (.int .i64 a1_0) := (qA1 HP.out.m 0).trans rfl; have z1 : w4.cell? ⟨gm, 1, none⟩ = some (.slice A1_1 l1_1.length c1_1) := (qA1 HP.out.m 1).trans rfl; have z2 : w4.cell? ⟨gm, 2, none⟩ = some (.slice A1_2 l1_2.length c1_2) := (qA1 HP.out.m 2).trans rfl; have z3 : w4.cell? ⟨gm, 3, none⟩ = some (.int .i64 a1_3) := (qA1 HP.out.m 3).trans rfl
 go_wp2_with fail
 refine (qD8.calls k A0 c0 l0 a1_0 A1_1 c1_1 l1_1 A1_2 c1_2 l1_2 a1_3 a2 a3 v0 v1 v2 f w4 HP.out.r0 HC0.out HP.out.r1 HC1.out HP.out.r2 HC2.out F4.out).mono ?_
 rintro e w5 ⟨u1, u2, rfl, ho1, ho2, hb⟩
 obtain ⟨B1, d1, rfl⟩ := Kd.qBV ho1
 obtain ⟨B2, d2, rfl⟩ := Kd.qBV ho2
 have HV := qA0.mk (And.intro (Kd.qB3 ho1).2 (Kd.qB3 ho2).2)
 have HQ := qA0.mk (HP.out.below hb)
 clear z0 z1 z2 z3
 clear HP hb ho1 ho2
 have HP := HQ
 clear HQ
 go_wp2_with (first | ((with_reducible refine qA9 (N := 12) rfl ?_); (try (refine qBD (by rfl) ?_; dsimp only)); refine box_event ?hg (N := 12) ?hd (cs := #[.int .i64 0, .slice none 0 0, .slice none 0 0]) (t := 35) ?hr ?_; (case hd => rfl); (case hg => rfl); (case hr => first | (go_simp; done) | (go_simp; rfl)); intro gv hg w6 hbox hb; have HG := qA0.mk hg; have HX := qA0.mk hbox; have HB5 := qA0.mk hb; clear hg hbox hb) | ((with_reducible refine qDP (t := 35) (p := 12) rfl ?_); refine qFD (t := 35) (p := 12) (g := gv) (cur := #[.int .i64 0, .slice none 0 0, .slice none 0 0]) (e := 35) rfl rfl rfl rfl rfl HX.out [.int .i64 v0, .slice B1 v1.length d1, .slice B2 v2.length d2] rfl rfl rfl ?h1 ?_; (case h1 => intro q hq_; simp only [List.mem_cons, List.not_mem_nil, or_false] at hq_; rcases hq_ with rfl | rfl | rfl <;> rfl); intro w7 hblk hsame hB_; have hb := hB_ _ _ HB5.out (Nat.le_of_eq HG.out.symm); have HQ := qA0.mk (HP.out.below hb); clear HP; have HP := HQ; clear HQ; have HVB : qA0 (PB w7 gv v0 B1 d1 v1 B2 d2 v2) := ⟨⟨hblk, Kd.qAE HV.out.1.2 hb, Kd.qAE HV.out.2.2 hb, HV.out.1.1, HV.out.2.1⟩⟩; clear HV hb hblk hsame hB_ HB5 HG HX; have z0 : w7.cell? ⟨gm, 0, none⟩ = some (.int .i64 a1_0) := (qA1 HP.out.m 0).trans rfl; have z1 : w7.cell? ⟨gm, 1, none⟩ = some (.slice A1_1 l1_1.length c1_1) := (qA1 HP.out.m 1).trans rfl; have z2 : w7.cell? ⟨gm, 2, none⟩ = some (.slice A1_2 l1_2.length c1_2) := (qA1 HP.out.m 2).trans rfl; have z3 : w7.cell? ⟨gm, 3, none⟩ = some (.int .i64 a1_3) := (qA1 HP.out.m 3).trans rfl))
 refine (qC8.calls k A0 c0 l0 a1_0 A1_1 c1_1 l1_1 A1_2 c1_2 l1_2 a1_3 a2 a4 L hh w7 HP.out.r0 HC0.out HP.out.r1 HC1.out HP.out.r2 HC2.out F5.out).mono ?_
 rintro e w8 ⟨uL, rfl, ho, hb⟩
 obtain ⟨AL, cL, rfl⟩ := Kd.N_slice (Kd.S_N ho)
 have HL := qA0.mk (And.intro (Kd.qFI (Kd.S_N ho)).2.1 (Kd.qFI (Kd.S_N ho)).2.2)
 have HQ := qA0.mk (HP.out.below hb)
 have HVB2 := qA0.mk (HVB.out.below hb)
 clear z0 z1 z2 z3
 clear HP hb ho HVB
 have HP := HQ
 have HVB := HVB2
 clear HQ HVB2
 have z0 : w8.cell? ⟨gm, 0, none⟩ = some (.int .i64 a1_0) := (qA1 HP.out.m 0).trans rfl; have z1 : w8.cell? ⟨gm, 1, none⟩ = some (.slice A1_1 l1_1.length c1_1) := (qA1 HP.out.m 1).trans rfl; have z2 : w8.cell? ⟨gm, 2, none⟩ = some (.slice A1_2 l1_2.length c1_2) := (qA1 HP.out.m 2).trans rfl; have z3 : w8.cell? ⟨gm, 3, none⟩ = some (.int .i64 a1_3) := (qA1 HP.out.m 3).trans rfl
 go_wp2_with fail
 refine (qAV.calls k A0 c0 l0 a1_0 A1_1 c1_1 l1_1 A1_2 c1_2 l1_2 a1_3 m w8 HP.out.r0 HC0.out HP.out.r1 HC1.out HP.out.r2 HC2.out F6.out).mono ?_
 rintro e w9 ⟨rfl, hb⟩
 have HQ := qA0.mk (HP.out.below hb)
 have HVB2 := qA0.mk (HVB.out.below hb)
 have HL2 := qA0.mk (And.intro HL.out.1 (Kd.qAE HL.out.2 hb))
 clear z0 z1 z2 z3
 clear HP hb HVB HL
 have HP := HQ
 have HVB := HVB2
 have HL := HL2
 clear HQ HVB2 HL2
 have em : (m != m) = false := by simp
 go_upto_region 9 with (fail)
 clear em
 go_cut [59] (fun v59 wc => ∃ x59 : Bool, v59 = .bool x59 ∧ qA0 (x59 = true ↔ m = 0 ∧ (a3 < 0 ∨ 999 < a3)) ∧ qA0 (w9 = wc))
 case first =>
  by_cases c1 : m = 0
  ·have c1b : (m == 0) = true := beq_iff_eq.mpr c1
   have C1 := qA0.mk c1
   clear c1
   (first | rw [c1b] | skip)
   by_cases c2 : a3 < 0
   ·have c2b : decide (a3 < 0) = true := decide_eq_true c2
    have C2 := qA0.mk c2
    clear c2
    go_wp2
    go_meet
    case rel => exact ⟨_, rfl, ⟨⟨fun _ => ⟨C1.out, .inl C2.out⟩, fun _ => rfl⟩⟩, ⟨rfl⟩⟩
   ·have c2b : decide (a3 < 0) = false := decide_eq_false c2
    have C2 := qA0.mk c2
    clear c2
    go_wp2
    go_meet
    case rel => exact ⟨_, rfl, ⟨⟨fun h => ⟨C1.out, .inr (by have := of_decide_eq_true h; omega)⟩, fun h => decide_eq_true (by have := C2.out; have := h.2; omega)⟩⟩, ⟨rfl⟩⟩
  ·have c1b : (m == 0) = false := beq_eq_false_iff_ne.mpr c1
   have C1 := qA0.mk c1
   clear c1
   (first | rw [c1b] | skip)
   go_wp2
   go_meet
   case rel => exact ⟨_, rfl, ⟨⟨fun h => (by cases h), fun h => absurd h.1 C1.out⟩⟩, ⟨rfl⟩⟩
 case rest =>
  obtain ⟨x59, rfl, HX, hw⟩ := hcut
  have hw := hw.out
  subst hw
  go_upto_if 59 with (fail)
  go_cut [11] (fun v11 wc => v11 = .int .i64 f ∧ qA0 (w9 = wc))
  case first =>
   cases x59
   ·have hf : m = f := by
     have := F7.out
     rw [if_neg (fun h => absurd (HX.out.2 h) (by decide))] at this
     exact this.symm
    have HF := qA0.mk hf
    clear hf
    go_wp2
    go_meet
    case rel => exact ⟨by rw [HF.out], ⟨rfl⟩⟩
   ·have hf : f = 1 := by
     have := F7.out
     rw [if_pos (HX.out.1 rfl)] at this
     exact this
    have HF := qA0.mk hf
    clear hf
    go_wp2
    go_meet
    case rel => exact ⟨by rw [HF.out], ⟨rfl⟩⟩
  case rest =>
   obtain ⟨rfl, hw⟩ := hcut
   have hw := hw.out
   subst hw
   clear HX
   go_upto_region 11 with (fail)
   go_cut [69] (fun v69 wc => ∃ x69 : Bool, v69 = .bool x69 ∧ qA0 (x69 = true ↔ m = 0 ∧ (a4 < 0 ∨ 1000 < a4)) ∧ qA0 (w9 = wc))
   case first =>
    by_cases c1 : m = 0
    ·have c1b : (m == 0) = true := beq_iff_eq.mpr c1
     have C1 := qA0.mk c1
     clear c1
     (first | rw [c1b] | skip)
     by_cases c2 : a4 < 0
     ·have c2b : decide (a4 < 0) = true := decide_eq_true c2
      have C2 := qA0.mk c2
      clear c2
      go_wp2
      go_meet
      case rel => exact ⟨_, rfl, ⟨⟨fun _ => ⟨C1.out, .inl C2.out⟩, fun _ => rfl⟩⟩, ⟨rfl⟩⟩
     ·have c2b : decide (a4 < 0) = false := decide_eq_false c2
      have C2 := qA0.mk c2
      clear c2
      go_wp2
      go_meet
      case rel => exact ⟨_, rfl, ⟨⟨fun h => ⟨C1.out, .inr (by have := of_decide_eq_true h; omega)⟩, fun h => decide_eq_true (by have := C2.out; have := h.2; omega)⟩⟩, ⟨rfl⟩⟩
    ·have c1b : (m == 0) = false := beq_eq_false_iff_ne.mpr c1
     have C1 := qA0.mk c1
     clear c1
     (first | rw [c1b] | skip)
     go_wp2
     go_meet
     case rel => exact ⟨_, rfl, ⟨⟨fun h => (by cases h), fun h => absurd h.1 C1.out⟩⟩, ⟨rfl⟩⟩
   case rest =>
    obtain ⟨x69, rfl, HX, hw⟩ := hcut
    have hw := hw.out
    subst hw
    go_upto_if 69 with (fail)
    go_cut [16] (fun v16 wc => v16 = .int .i64 hh ∧ qA0 (w9 = wc))
    case first =>
     cases x69
     ·have hf : m = hh := by
       have := F8.out
       rw [if_neg (fun h => absurd (HX.out.2 h) (by decide))] at this
       exact this.symm
      have HF := qA0.mk hf
      clear hf
      go_wp2
      go_meet
      case rel => exact ⟨by rw [HF.out], ⟨rfl⟩⟩
     ·have hf : hh = 1 := by
       have := F8.out
       rw [if_pos (HX.out.1 rfl)] at this
       exact this
      have HF := qA0.mk hf
      clear hf
      go_wp2
      go_meet
      case rel => exact ⟨by rw [HF.out], ⟨rfl⟩⟩
    case rest =>
     obtain ⟨rfl, hw⟩ := hcut
     have hw := hw.out
     subst hw
     clear HX
     have ef : (f != f) = false := by simp
     have eh : (hh != hh) = false := by simp
     go_upto_if 80 with (first | ((with_reducible refine qA9 (N := 17) rfl ?_); (try (refine qBD (by rfl) ?_; dsimp only)); refine box_event ?hg (N := 17) ?hd (cs := #[.int .i64 0, .slice none 0 0, .slice none 0 0]) (t := 35) ?hr ?_; (case hd => rfl); (case hg => rfl); (case hr => first | (go_simp; done) | (go_simp; rfl)); intro gw hg w10 hbox hb; have HG := qA0.mk hg; have HX := qA0.mk hbox; have HB9 := qA0.mk hb; clear hg hbox hb) | ((with_reducible refine qDP (t := 35) (p := 17) rfl ?_); refine qFD (t := 35) (p := 17) (g := gw) (cur := #[.int .i64 0, .slice none 0 0, .slice none 0 0]) (e := 35) rfl rfl rfl rfl rfl HX.out [.int .i64 0, .slice none 0 0, .slice none 0 0] rfl rfl rfl ?h1 ?_; (case h1 => intro q hq_; simp only [List.mem_cons, List.not_mem_nil, or_false] at hq_; rcases hq_ with rfl | rfl | rfl <;> rfl); intro w11 hblk hsame hB_; have hb := hB_ _ _ HB9.out (Nat.le_of_eq HG.out.symm); have H9 := qA0.mk hb; have HW := qA0.mk hblk; clear hb hblk hsame hB_ HX HB9))
     clear ef eh
     go_cut [] (fun wc => ∃ (C1 : Option Addr) (e1 : Nat) (C2 : Option Addr) (e2 : Nat), qA0 (PA w wc gm #[.int .i64 a1_0, .slice A1_1 l1_1.length c1_1, .slice A1_2 l1_2.length c1_2, .int .i64 a1_3] A0 l0 A1_1 l1_1 A1_2 l1_2) ∧ qA0 (PB wc gv v0 B1 d1 v1 B2 d2 v2) ∧ qA0 (PB wc gw x0 C1 e1 x1 C2 e2 x2) ∧ qA0 (Kd.C k35 wc AL L.length L))
     case first =>
      by_cases c : f = 0
      ·have cb : (f == 0) = true := beq_iff_eq.mpr c
       have C := qA0.mk c
       clear c
       (first | rw [cb] | skip)
       have HP2 := qA0.mk (HP.out.below H9.out)
       have z0 : w11.cell? ⟨gm, 0, none⟩ = some (.int .i64 a1_0) := (qA1 HP2.out.m 0).trans rfl
       have z1 : w11.cell? ⟨gm, 1, none⟩ = some (.slice A1_1 l1_1.length c1_1) := (qA1 HP2.out.m 1).trans rfl
       have z2 : w11.cell? ⟨gm, 2, none⟩ = some (.slice A1_2 l1_2.length c1_2) := (qA1 HP2.out.m 2).trans rfl
       have z3 : w11.cell? ⟨gm, 3, none⟩ = some (.int .i64 a1_3) := (qA1 HP2.out.m 3).trans rfl
       go_wp2_with fail
       refine (qAP.calls k A0 c0 l0 a1_0 A1_1 c1_1 l1_1 A1_2 c1_2 l1_2 a1_3 a2 a3 x0 x1 x2 w11 HP2.out.r0 HC0.out HP2.out.r1 HC1.out HP2.out.r2 HC2.out (F9.out C.out)).mono ?_
       rintro e w12 ⟨u1, u2, rfl, ho1, ho2, hb⟩
       obtain ⟨D1, e1, rfl⟩ := Kd.qBV ho1
       obtain ⟨D2, e2, rfl⟩ := Kd.qBV ho2
       have HO := qA0.mk (And.intro ho1 (And.intro ho2 hb))
       clear ho1 ho2 hb z0 z1 z2 z3
       go_wp2_with ((with_reducible refine qDP (t := 35) (p := 17) rfl ?_); refine qFD (t := 35) (p := 17) (g := gw) (cur := #[.int .i64 0, .slice none 0 0, .slice none 0 0]) (e := 35) rfl rfl rfl rfl rfl (qAL HW.out HO.out.2.2) [.int .i64 x0, .slice D1 x1.length e1, .slice D2 x2.length e2] rfl rfl rfl ?h1 ?_; (case h1 => intro q hq_; simp only [List.mem_cons, List.not_mem_nil, or_false] at hq_; rcases hq_ with rfl | rfl | rfl <;> rfl); intro w13 hblk hsame hB_; have HN := qA0.mk (And.intro hblk (And.intro hsame (hB_ _ _ (qBZ H9.out HO.out.2.2) (Nat.le_of_eq HG.out.symm)))); clear hblk hsame hB_)
       go_meet
       case rel =>
        obtain ⟨n1, n2, n3⟩ := HN.out
        have r1 := Kd.qB3 (Kd.R_step (Kd.qBG HO.out.1 (qAL HW.out HO.out.2.2) (by decide)) (fun k hk _ => n2 k hk.2))
        have r2 := Kd.qB3 (Kd.R_step (Kd.qBG HO.out.2.1 (qAL HW.out HO.out.2.2) (by decide)) (fun k hk _ => n2 k hk.2))
        exact ⟨D1, e1, D2, e2, ⟨HP.out.below n3⟩, ⟨HVB.out.below n3⟩, ⟨⟨n1, r1.2.2, r2.2.2, r1.2.1, r2.2.1⟩⟩, ⟨Kd.qAE HL.out.2 n3⟩⟩
      ·have cb : (f == 0) = false := beq_eq_false_iff_ne.mpr c
       obtain ⟨rfl, rfl, rfl⟩ := F10.out c
       clear c
       (first | rw [cb] | skip)
       go_wp2
       go_meet
       case rel => exact ⟨none, 0, none, 0, ⟨HP.out.below H9.out⟩, ⟨HVB.out.below H9.out⟩, ⟨⟨HW.out, Kd.C_nil _ _, Kd.C_nil _ _, Nat.le_refl _, Nat.le_refl _⟩⟩, ⟨Kd.qAE HL.out.2 H9.out⟩⟩
     case rest =>
      have HLc := qA0.mk HL.out.1
      clear HP HVB HW H9 HG HL
      obtain ⟨C1, e1, C2, e2, HP, HVB, HWB, HL⟩ := hcut
      go_wp2_with fail
      go_loopw [18, 88] (fun v18 v88 wr => ∃ j : Nat, j ≤ L.length ∧ v18 = .int .i64 (memF (L.take j)) ∧ v88 = .int .i64 (j : Int) ∧ qA0 (PA w wr gm #[.int .i64 a1_0, .slice A1_1 l1_1.length c1_1, .slice A1_2 l1_2.length c1_2, .int .i64 a1_3] A0 l0 A1_1 l1_1 A1_2 l1_2) ∧ qA0 (PB wr gv v0 B1 d1 v1 B2 d2 v2) ∧ qA0 (PB wr gw x0 C1 e1 x1 C2 e2 x2) ∧ qA0 (Kd.C k35 wr AL L.length L)) (fun _ v88 _ => L.length - (intOf v88).toNat)
      case atStart => exact ⟨0, Nat.zero_le _, rfl, rfl, HP, HVB, HWB, HL⟩
      case round =>
       clear HP HVB HWB HL
       obtain ⟨j, hj, rfl, rfl, HP, HVB, HWB, HL⟩ := hrel
       by_cases hlt : j < L.length
       ·obtain ⟨hz, y0, y1, y2, g1, g2⟩ := F12.out j hlt
        have G1 := qA0.mk g1
        have G2 := qA0.mk g2
        have hm := memF_succ L j hlt
        have ez : (hh != 0) = false := by rw [hz]; rfl
        obtain ⟨ad, E1, q1, E2, q2, eA, hx0, hx1, hx2, hl1, hi1, hl2, hi2⟩ := at_T35 HL.out (j : Int) (by omega) (by omega)
        cases eA
        clear g1 g2 hz
        generalize qE0 L (j : Int) = y at *
        simp only [Int.toNat_natCast] at hx0 hx1 hx2
        have HM := qA0.mk hm
        have HI := qA0.mk (And.intro hl1 (And.intro hi1 (And.intro hl2 hi2)))
        clear hm hl1 hi1 hl2 hi2
        go_wp2_with (first | ((with_reducible refine qA9 (N := 20) rfl ?_); (try (refine qBD (by rfl) ?_; dsimp only)); refine box_event ?hg (N := 20) ?hd (cs := #[.int .i64 0, .slice none 0 0, .slice none 0 0]) (t := 35) ?hr ?_; (case hd => rfl); (case hg => rfl); (case hr => first | (go_simp; done) | (go_simp; rfl)); intro gy hg w14 hbox hb; have HG := qA0.mk hg; have HX := qA0.mk hbox; have HB14 := qA0.mk hb; clear hg hbox hb) | ((with_reducible refine qDP (t := 35) (p := 20) rfl ?_); refine qFD (t := 35) (p := 20) (g := gy) (cur := #[.int .i64 0, .slice none 0 0, .slice none 0 0]) (e := 35) rfl rfl rfl rfl rfl HX.out [.int .i64 y.f0, .slice E1 y.f1.length q1, .slice E2 y.f2.length q2] rfl rfl rfl ?h1 ?_; (case h1 => intro q hq_; simp only [List.mem_cons, List.not_mem_nil, or_false] at hq_; rcases hq_ with rfl | rfl | rfl <;> rfl); intro w15 hblk hsame hB_; have HZ := qA0.mk (And.intro hblk (hB_ _ _ HB14.out (Nat.le_of_eq HG.out.symm))); clear hblk hsame hB_ HX HB14))
        have hb := HZ.out.2
        have HY : qA0 (PB w15 gy y.f0 E1 q1 y.f1 E2 q2 y.f2) := ⟨⟨HZ.out.1, Kd.qAE HI.out.2.1 hb, Kd.qAE HI.out.2.2.2 hb, HI.out.1, HI.out.2.2.1⟩⟩
        have HP_ := qA0.mk (HP.out.below hb)
        have HVB_ := qA0.mk (HVB.out.below hb)
        have HWB_ := qA0.mk (HWB.out.below hb)
        have HL_ := qA0.mk (Kd.qAE HL.out hb)
        clear HP HVB HWB HL
        have HP := HP_
        have HVB := HVB_
        have HWB := HWB_
        have HL := HL_
        clear HP_ HVB_ HWB_ HL_
        clear hb HZ HI hx0 hx1 hx2 HG
        have hb : Below w15.heap.size w15 w15.drew := qAF (Below.refl _ _)
        have HP_ := qA0.mk (HP.out.below hb)
        have HVB_ := qA0.mk (HVB.out.below hb)
        have HWB_ := qA0.mk (HWB.out.below hb)
        have HL_ := qA0.mk (Kd.qAE HL.out hb)
        have HY_ := qA0.mk (HY.out.below hb)
        clear HP HVB HWB HL HY
        have HP := HP_
        have HVB := HVB_
        have HWB := HWB_
        have HL := HL_
        have HY := HY_
        clear HP_ HVB_ HWB_ HL_ HY_
        clear hb
        refine qEA (n := 12) (S := fun w' => w'.cell? ⟨gy, 0, none⟩ = some (.int .i64 y.f0) ∧ w'.cell? ⟨gy, 1, none⟩ = some (.slice E1 y.f1.length q1) ∧ w'.cell? ⟨gy, 2, none⟩ = some (.slice E2 y.f2.length q2) ∧ w'.cell? ⟨gm, 0, none⟩ = some (.int .i64 a1_0) ∧ w'.cell? ⟨gm, 1, none⟩ = some (.slice A1_1 l1_1.length c1_1) ∧ w'.cell? ⟨gm, 2, none⟩ = some (.slice A1_2 l1_2.length c1_2) ∧ w'.cell? ⟨gm, 3, none⟩ = some (.int .i64 a1_3)) (ds := []) #[false, false, false, false, false, false, false, false, false, false, false, false] (by kernel_rfl) rfl rfl ⟨(qA1 HY.out.v 0).trans rfl, (qA1 HY.out.v 1).trans rfl, (qA1 HY.out.v 2).trans rfl, (qA1 HP.out.m 0).trans rfl, (qA1 HP.out.m 1).trans rfl, (qA1 HP.out.m 2).trans rfl, (qA1 HP.out.m 3).trans rfl⟩ (fun hHeld => ?_); refine qCS qC4.tab22 qC4.bits22 (fun HT_ HW_ => ?_)
        generalize w15.drew = w16 at HP HVB HWB HL HY hHeld ⊢
        refine pure_ (i := 0) (N := some 93) (v := ?_) (a' := ?_) #[true, false, false, false, false, false, false, false, false, false, false, false] rfl rfl (any_of HT_.out (by kernel_rfl)) (fun _ _ _ h => h) (Or.inl ⟨by rfl, ?_⟩) ?_ ?_
        rotate_left
        ·intro w'
         go_simp
         with_reducible rfl
        rotate_left
        ·simp only [Act.put, List.setIfInBounds_toArray, List.set_cons_zero, List.set_cons_succ, qC9, qCB]
         rfl
        refine pure_ (i := 1) (N := some 94) (v := ?_) (a' := ?_) #[true, true, false, false, false, false, false, false, false, false, false, false] rfl rfl (any_of HT_.out (by kernel_rfl)) (fun _ _ _ h => h) (Or.inl ⟨by rfl, ?_⟩) ?_ ?_
        rotate_left
        ·intro w'
         go_simp
         with_reducible rfl
        rotate_left
        ·simp only [Act.put, List.setIfInBounds_toArray, List.set_cons_zero, List.set_cons_succ, qC9, qCB]
         rfl
        refine pure_ (i := 2) (N := some 95) (v := ?_) (a' := ?_) #[true, true, true, false, false, false, false, false, false, false, false, false] rfl rfl (any_of HT_.out (by kernel_rfl)) (fun _ _ _ h => h) (Or.inl ⟨by rfl, ?_⟩) ?_ ?_
        rotate_left
        ·intro w'
         go_simp
         with_reducible rfl
        rotate_left
        ·simp only [Act.put, List.setIfInBounds_toArray, List.set_cons_zero, List.set_cons_succ, qC9, qCB]
         rfl
        refine pure_ (i := 4) (N := some 97) (v := ?_) (a' := ?_) #[true, true, true, false, true, false, false, false, false, false, false, false] rfl rfl (any_of HT_.out (by kernel_rfl)) (fun _ _ _ h => h) (Or.inl ⟨by rfl, ?_⟩) ?_ ?_
        rotate_left
        ·intro w'
         go_simp
         with_reducible rfl
        rotate_left
        ·simp only [Act.put, List.setIfInBounds_toArray, List.set_cons_zero, List.set_cons_succ, qC9, qCB]
         rfl
        refine pure_ (i := 6) (N := some 99) (v := ?_) (a' := ?_) #[true, true, true, false, true, false, true, false, false, false, false, false] rfl rfl (any_of HT_.out (by kernel_rfl)) (fun _ _ _ h => h) (Or.inl ⟨by rfl, ?_⟩) ?_ ?_
        rotate_left
        ·intro w'
         go_simp
         with_reducible rfl
        rotate_left
        ·simp only [Act.put, List.setIfInBounds_toArray, List.set_cons_zero, List.set_cons_succ, qC9, qCB]
         rfl
        refine pure_ (i := 7) (N := some 100) (v := ?_) (a' := ?_) #[true, true, true, false, true, false, true, true, false, false, false, false] rfl rfl (any_of HT_.out (by kernel_rfl)) (fun _ _ _ h => h) (Or.inl ⟨by rfl, ?_⟩) ?_ ?_
        rotate_left
        ·intro w'
         go_simp
         with_reducible rfl
        rotate_left
        ·simp only [Act.put, List.setIfInBounds_toArray, List.set_cons_zero, List.set_cons_succ, qC9, qCB]
         rfl
        refine take_ (i := 3) (N := some 96) (v := ?_) (a' := ?_) #[true, true, true, true, true, false, true, true, false, false, false, false] rfl rfl (take_ofW HT_.out HW_.out (by kernel_rfl)) (fun _ _ _ h => h) (Or.inl ⟨by rfl, ?_⟩) hHeld ?_ ?_
        rotate_left
        ·rintro w' ⟨s0, s1, s2, s3, s4, s5, s6⟩
         go_simp
         with_reducible rfl
        rotate_left
        ·simp only [Act.put, List.setIfInBounds_toArray, List.set_cons_zero, List.set_cons_succ, qC9, qCB]
         rfl
        refine take_ (i := 5) (N := some 98) (v := ?_) (a' := ?_) #[true, true, true, true, true, true, true, true, false, false, false, false] rfl rfl (take_ofW HT_.out HW_.out (by kernel_rfl)) (fun _ _ _ h => h) (Or.inl ⟨by rfl, ?_⟩) hHeld ?_ ?_
        rotate_left
        ·rintro w' ⟨s0, s1, s2, s3, s4, s5, s6⟩
         go_simp
         with_reducible rfl
        rotate_left
        ·simp only [Act.put, List.setIfInBounds_toArray, List.set_cons_zero, List.set_cons_succ, qC9, qCB]
         rfl
        refine one_ (i := 8) (N := some 101) #[true, true, true, true, true, true, true, true, true, false, false, false] rfl rfl (qCR HT_.out (by kernel_rfl)) (by decide) (fun K hK => ?_)
        refine qEO Tryz.func11 (by kernel_rfl) rfl #[.slice A0 l0.length c0, .agg #[.int .i64 a1_0, .slice A1_1 l1_1.length c1_1, .slice A1_2 l1_2.length c1_2, .int .i64 a1_3], .int .u64 a2, .int .i64 (j : Int)] (by rfl) rfl rfl (by (try simp only [List.map_toArray, List.map_cons, List.map_nil]); first | done | rfl | (simp only [List.length_drop, List.length_take]; rfl)) ?_
        refine (qAP.calls k A0 c0 l0 a1_0 A1_1 c1_1 l1_1 A1_2 c1_2 l1_2 a1_3 a2 (j : Int) y0 y1 y2 w16 HP.out.r0 HC0.out HP.out.r1 HC1.out HP.out.r2 HC2.out G1.out).mono ?_
        rintro e w17 ⟨u1, u2, rfl, ho1, ho2, hb⟩
        refine ⟨_, rfl, ?_⟩
        obtain ⟨D1, r1, rfl⟩ := Kd.qBV ho1
        obtain ⟨D2, r2, rfl⟩ := Kd.qBV ho2
        have HO := qA0.mk (And.intro (Kd.qB3 ho1).2 (Kd.qB3 ho2).2)
        have HP_ := qA0.mk (HP.out.below hb)
        have HVB_ := qA0.mk (HVB.out.below hb)
        have HWB_ := qA0.mk (HWB.out.below hb)
        have HL_ := qA0.mk (Kd.qAE HL.out hb)
        have HY_ := qA0.mk (HY.out.below hb)
        clear HP HVB HWB HL HY
        have HP := HP_
        have HVB := HVB_
        have HWB := HWB_
        have HL := HL_
        have HY := HY_
        clear HP_ HVB_ HWB_ HL_ HY_
        clear ho1 ho2 hb
        refine hK.out _ _ ⟨(qA1 HY.out.v 0).trans rfl, (qA1 HY.out.v 1).trans rfl, (qA1 HY.out.v 2).trans rfl, (qA1 HP.out.m 0).trans rfl, (qA1 HP.out.m 1).trans rfl, (qA1 HP.out.m 2).trans rfl, (qA1 HP.out.m 3).trans rfl⟩ (fun hHeld => ?_)
        clear hK K
        refine norm_ (a' := ?_) ?_ ?_
        rotate_left
        ·show Act.put _ (some 101) _ = _
         simp only [Act.put, List.setIfInBounds_toArray, List.set_cons_zero, List.set_cons_succ, qC9, qCB]
         rfl
        refine one_ (i := 9) (N := some 102) #[true, true, true, true, true, true, true, true, true, true, false, false] rfl rfl (qCR HT_.out (by kernel_rfl)) (by decide) (fun K hK => ?_)
        refine qEO Tryz.func12 (by kernel_rfl) rfl #[.agg #[.int .i64 y.f0, .slice E1 y.f1.length q1, .slice E2 y.f2.length q2], .agg #[.int .i64 y0, .slice D1 y1.length r1, .slice D2 y2.length r2]] (by rfl) rfl rfl (by (try simp only [List.map_toArray, List.map_cons, List.map_nil]); first | done | rfl | (simp only [List.length_drop, List.length_take]; rfl)) ?_
        refine (qCC.calls k y.f0 E1 q1 y.f1 E2 q2 y.f2 y0 D1 r1 y1 D2 r2 y2 true w17 HY.out.r1 HY.out.c1 HY.out.r2 HY.out.c2 HO.out.1.2 HO.out.1.1 HO.out.2.2 HO.out.2.1 G2.out).mono ?_
        rintro e w18 ⟨rfl, hb⟩
        refine ⟨_, rfl, ?_⟩
        have HP_ := qA0.mk (HP.out.below hb)
        have HVB_ := qA0.mk (HVB.out.below hb)
        have HWB_ := qA0.mk (HWB.out.below hb)
        have HL_ := qA0.mk (Kd.qAE HL.out hb)
        have HY_ := qA0.mk (HY.out.below hb)
        clear HP HVB HWB HL HY
        have HP := HP_
        have HVB := HVB_
        have HWB := HWB_
        have HL := HL_
        have HY := HY_
        clear HP_ HVB_ HWB_ HL_ HY_
        clear hb HO
        refine hK.out _ _ ⟨(qA1 HY.out.v 0).trans rfl, (qA1 HY.out.v 1).trans rfl, (qA1 HY.out.v 2).trans rfl, (qA1 HP.out.m 0).trans rfl, (qA1 HP.out.m 1).trans rfl, (qA1 HP.out.m 2).trans rfl, (qA1 HP.out.m 3).trans rfl⟩ (fun hHeld => ?_)
        clear hK K
        refine norm_ (a' := ?_) ?_ ?_
        rotate_left
        ·show Act.put _ (some 102) _ = _
         simp only [Act.put, List.setIfInBounds_toArray, List.set_cons_zero, List.set_cons_succ, qC9, qCB]
         rfl
        refine pure_ (i := 10) (N := some 103) (v := ?_) (a' := ?_) #[true, true, true, true, true, true, true, true, true, true, true, false] rfl rfl (any_of HT_.out (by kernel_rfl)) (fun _ _ _ h => h) (Or.inl ⟨by rfl, ?_⟩) ?_ ?_
        rotate_left
        ·intro w'
         go_simp
         with_reducible rfl
        rotate_left
        ·simp only [Act.put, List.setIfInBounds_toArray, List.set_cons_zero, List.set_cons_succ, qC9, qCB]
         rfl
        refine pure_ (i := 11) (N := some 104) (v := ?_) (a' := ?_) #[true, true, true, true, true, true, true, true, true, true, true, true] rfl rfl (any_of HT_.out (by kernel_rfl)) (fun _ _ _ h => h) (Or.inl ⟨by rfl, ?_⟩) ?_ ?_
        rotate_left
        ·intro w'
         go_simp
         with_reducible rfl
        rotate_left
        ·simp only [Act.put, List.setIfInBounds_toArray, List.set_cons_zero, List.set_cons_succ, qC9, qCB]
         rfl
        refine qF9 (qDX HT_.out (by kernel_rfl)) ?_
        have zy : w18.cell? ⟨gy, 1, none⟩ = some (.slice E1 y.f1.length q1) := (qA1 HY.out.v 1).trans rfl
        have hmx := Kd.C_max HL.out
        clear hHeld
        go_wp2_with fail
        go_roundw
        case rel => exact ⟨j + 1, by omega, by rw [HM.out], by go_num, HP, HVB, HWB, HL⟩
        case measure => simp [intOf]; omega
       ·obtain rfl : j = L.length := by omega
        have zv0 : wr.cell? ⟨gv, 0, none⟩ = some (.int .i64 v0) := (qA1 HVB.out.v 0).trans rfl
        have zv1 : wr.cell? ⟨gv, 1, none⟩ = some (.slice B1 v1.length d1) := (qA1 HVB.out.v 1).trans rfl
        have zv2 : wr.cell? ⟨gv, 2, none⟩ = some (.slice B2 v2.length d2) := (qA1 HVB.out.v 2).trans rfl
        have zw0 : wr.cell? ⟨gw, 0, none⟩ = some (.int .i64 x0) := (qA1 HWB.out.v 0).trans rfl
        have zw1 : wr.cell? ⟨gw, 1, none⟩ = some (.slice C1 x1.length e1) := (qA1 HWB.out.v 1).trans rfl
        have zw2 : wr.cell? ⟨gw, 2, none⟩ = some (.slice C2 x2.length e2) := (qA1 HWB.out.v 2).trans rfl
        simp only [List.take_length]
        go_wp2_with fail
        refine (qCC.calls k v0 B1 d1 v1 B2 d2 v2 x0 C1 e1 x1 C2 e2 x2 true wr HVB.out.r1 HVB.out.c1 HVB.out.r2 HVB.out.c2 HWB.out.r1 HWB.out.c1 HWB.out.r2 HWB.out.c2 F11.out).mono ?_
        rintro e w19 ⟨rfl, hb⟩
        have HP_ := qA0.mk (HP.out.below hb)
        have HL_ := qA0.mk (Kd.qAE HL.out hb)
        clear HP HL
        have HP := HP_
        have HL := HL_
        clear HP_ HL_
        clear hb zv0 zv1 zv2 zw0 zw1 zw2
        go_wp2_with fail
        refine (qCG.calls k AL cL L (memF L) w19 HL.out HLc.out F13.out).mono ?_
        rintro e w20 ⟨rfl, hb⟩
        have HP_ := qA0.mk (HP.out.below hb)
        clear HP
        have HP := HP_
        clear HP_
        clear hb
        have hq : (memF L == memF L) = true := by simp
        by_cases c : hh = 0
        ·have cb : (hh != 0) = false := bne_eq_false_iff_eq.mpr c
         have ce : ((L.length : Int) == a4) = true := beq_iff_eq.mpr (F14.out c)
         clear c
         go_wp2_with fail
         go_ret
         exact ⟨by first | rfl | simp [cb, ce, hq], HP.out.b⟩
        ·have cb : (hh != 0) = true := bne_iff_ne.mpr c
         clear c
         go_wp2_with fail
         go_ret
         exact ⟨by first | rfl | simp [cb, hq], HP.out.b⟩
end
end Go.Proofs.YtpafpefealopoaaGreat.PPopMakes
end
