/- A part of the proof of PopMakes: texts that were printed, words, walks. No condition. -/
import Derived.Test.YtpafpefealopoaaGreatC1
import Derived.Test.YtpafpefealopoaaGreatC3
import Derived.Test.YtpafpefealopoaaGreatC4
import Derived.Test.YtpafpefealopoaaGreatC5
import Derived.Lib.SliceRun
set_option linter.unusedVariables false
set_option linter.unusedSimpArgs false
section
namespace Go.Proofs.YtpafpefealopoaaGreat.PPopMakes
noncomputable section
open Go.RowKit Go.Proofs.YtpafpefealopoaaGreatW.PrintWords Go.Proofs.YtpafpefealopoaaGreatW.PrintLast Go.Proofs.YtpafpefealopoaaGreatW.PrintMore
set_option maxHeartbeats 8000000
set_option maxRecDepth 100000
mutual
def qAJ.l0 : Nat → List (S76) → List (S66) → List Int → List (S66) → Int → Int → Option (Int × Int)
 | 0, _, _, _, _, _, _ => none
 | k + 1, x0, x1, x7, x27, x28, x29 => if x29 < x28 then (if 0 ≤ x29 then (if x29 < (x27.length : Int) then (if ((qA3 x27 x29).f0) = 1 then (qAJ.j1 k x0 x1 x7 x29 x27 x28 x29 true ((qA3 x27 x29).f0) ((qA3 x27 x29).f1) ((qA3 x27 x29).f2) ((qA3 x27 x29).f3) ((qA3 x27 x29).f4)) else (if ((qA3 x27 x29).f0) = 2 then (qAJ.j1 k x0 x1 x7 x29 x27 x28 x29 true ((qA3 x27 x29).f0) ((qA3 x27 x29).f1) ((qA3 x27 x29).f2) ((qA3 x27 x29).f3) ((qA3 x27 x29).f4)) else (qAJ.j1 k x0 x1 x7 x29 x27 x28 x29 (((qA3 x27 x29).f0) == 3) ((qA3 x27 x29).f0) ((qA3 x27 x29).f1) ((qA3 x27 x29).f2) ((qA3 x27 x29).f3) ((qA3 x27 x29).f4)))) else (none)) else (none)) else (if 0 ≤ (wrap64 ((x1.length : Int) - 1)) then (if (wrap64 ((x1.length : Int) - 1)) < (x7.length : Int) then (some (rd x7 (wrap64 ((x1.length : Int) - 1)), 0)) else (none)) else (none))
def qAJ.j1 : Nat → List (S76) → List (S66) → List Int → Int → List (S66) → Int → Int → Bool → Int → List Int → Int → Int → ByteArray → Option (Int × Int)
 | 0, _, _, _, _, _, _, _, _, _, _, _, _, _ => none
 | k + 1, x0, x1, x7, x8, x27, x28, x29, x46, x270000, x270001, x270002, x270003, x270004 => if x46 = true then ((qAT.f k x0 x270000 x270001 x270002 x270003 x270004).bind fun bt270 => (if bt270.2 = 0 then (if 0 ≤ x8 then (if x8 < (x7.length : Int) then (qAJ.l0 k x0 x1 (x7.set (x8 : Int).toNat bt270.1) x27 x28 (wrap64 (x29 + 1))) else (none)) else (none)) else (some (0, bt270.2)))) else (qAJ.l1 k x0 x1 x7 x8 ([] : List Int) x27 x28 x29 x270001 (x270001.length : Int) 0 x270000 x270001 x270002 x270003 x270004)
def qAJ.l1 : Nat → List (S76) → List (S66) → List Int → Int → List Int → List (S66) → Int → Int → List Int → Int → Int → Int → List Int → Int → Int → ByteArray → Option (Int × Int)
 | 0, _, _, _, _, _, _, _, _, _, _, _, _, _, _, _, _ => none
 | k + 1, x0, x1, x7, x8, x12, x27, x28, x29, x61, x62, x63, x270000, x270001, x270002, x270003, x270004 => if x63 < x62 then (if 0 ≤ x63 then (if x63 < (x61.length : Int) then (if 0 ≤ (rd x61 x63) then (if (rd x61 x63) < (x7.length : Int) then (if x12.length < 17592186044416 then (qAJ.l1 k x0 x1 x7 x8 (x12 ++ [rd x7 (rd x61 x63)]) x27 x28 x29 x61 x62 (wrap64 (x63 + 1)) x270000 x270001 x270002 x270003 x270004) else (none)) else (none)) else (none)) else (none)) else (none)) else (if x270000 = 16 then ((qAQ.f k x0).bind fun t279 => ((qBQ.f k t279 x270004).bind fun bt282 => (if bt282.2.2.2.2.2 = true then ((qCF.f bt282.2.1).bind fun t290 => (if t290 = true then ((qCF.f bt282.2.2.1).bind fun t291 => (qAJ.j3 k x0 x1 x7 x8 x12 x27 x28 x29 (!t291) x270000 x270001 x270002 x270003 x270004 bt282.1 bt282.2.1 bt282.2.2.1 bt282.2.2.2.1 bt282.2.2.2.2.1)) else (qAJ.j3 k x0 x1 x7 x8 x12 x27 x28 x29 true x270000 x270001 x270002 x270003 x270004 bt282.1 bt282.2.1 bt282.2.2.1 bt282.2.2.2.1 bt282.2.2.2.2.1))) else (some (0, 15))))) else ((qA5.f k x270000 x270001 x270002 x270003 x270004 x12 (⟨#[]⟩ : ByteArray) 0 0 false ([] : List (S134))).bind fun bt295 => (if bt295.2 = true then (if 0 ≤ x8 then (if x8 < (x7.length : Int) then (qAJ.l0 k x0 x1 (x7.set (x8 : Int).toNat bt295.1) x27 x28 (wrap64 (x29 + 1))) else (none)) else (none)) else (some (0, 8)))))
def qAJ.j3 : Nat → List (S76) → List (S66) → List Int → Int → List Int → List (S66) → Int → Int → Bool → Int → List Int → Int → Int → ByteArray → ByteArray → Int → Int → Bool → List (S134) → Option (Int × Int)
 | 0, _, _, _, _, _, _, _, _, _, _, _, _, _, _, _, _, _, _, _ => none
 | k + 1, x0, x1, x7, x8, x12, x27, x28, x29, x98, x270000, x270001, x270002, x270003, x270004, x279000, x279001, x279002, x279003, x279004 => if x98 = true then (some (0, 8)) else ((qA5.f k x270000 x270001 x270002 x270003 x270004 x12 x279000 x279001 x279002 x279003 x279004).bind fun bt292 => (if bt292.2 = true then (if 0 ≤ x8 then (if x8 < (x7.length : Int) then (qAJ.l0 k x0 x1 (x7.set (x8 : Int).toNat bt292.1) x27 x28 (wrap64 (x29 + 1))) else (none)) else (none)) else (some (0, 8))))
end
def qAJ.f (k : Nat) (l0 : List (S76)) (l1 : List (S66)) : Option (Int × Int) := (qAZ.f k l1).bind fun t263 => (if t263 = 0 then (if 0 ≤ (l1.length : Int) then (if ((l1.length : Int) : Int).toNat ≤ 35184372088832 then (qAJ.l0 k l0 l1 (List.replicate ((l1.length : Int) : Int).toNat 0) l1 (l1.length : Int) 0) else (none)) else (none)) else (some (0, t263)))
theorem qAJ.qC6 : ∀ k, (∀ y0 y1 y2 y3 y4 y5, LeO (qAJ.l0 k y0 y1 y2 y3 y4 y5) (qAJ.l0 (k + 1) y0 y1 y2 y3 y4 y5)) ∧ (∀ y0 y1 y2 y3 y4 y5 y6 y7 y8 y9 y10 y11 y12, LeO (qAJ.j1 k y0 y1 y2 y3 y4 y5 y6 y7 y8 y9 y10 y11 y12) (qAJ.j1 (k + 1) y0 y1 y2 y3 y4 y5 y6 y7 y8 y9 y10 y11 y12)) ∧ (∀ y0 y1 y2 y3 y4 y5 y6 y7 y8 y9 y10 y11 y12 y13 y14 y15, LeO (qAJ.l1 k y0 y1 y2 y3 y4 y5 y6 y7 y8 y9 y10 y11 y12 y13 y14 y15) (qAJ.l1 (k + 1) y0 y1 y2 y3 y4 y5 y6 y7 y8 y9 y10 y11 y12 y13 y14 y15)) ∧ (∀ y0 y1 y2 y3 y4 y5 y6 y7 y8 y9 y10 y11 y12 y13 y14 y15 y16 y17 y18, LeO (qAJ.j3 k y0 y1 y2 y3 y4 y5 y6 y7 y8 y9 y10 y11 y12 y13 y14 y15 y16 y17 y18) (qAJ.j3 (k + 1) y0 y1 y2 y3 y4 y5 y6 y7 y8 y9 y10 y11 y12 y13 y14 y15 y16 y17 y18))
 | 0 => ⟨fun _ _ _ _ _ _ r h => by simp [qAJ.l0] at h, fun _ _ _ _ _ _ _ _ _ _ _ _ _ r h => by simp [qAJ.j1] at h, fun _ _ _ _ _ _ _ _ _ _ _ _ _ _ _ _ r h => by simp [qAJ.l1] at h, fun _ _ _ _ _ _ _ _ _ _ _ _ _ _ _ _ _ _ _ r h => by simp [qAJ.j3] at h⟩
 | k + 1 => by
  obtain ⟨ih0, ih1, ih2, ih3⟩ := qAJ.qC6 k
  refine ⟨?_, ?_, ?_, ?_⟩
  ·intro y0 y1 y2 y3 y4 y5
   unfold qAJ.l0
   have im0 := @qAZ.mono
   have im1 := @qAQ.mono
   have im2 := @qBQ.mono
   have im3 := @qA5.mono
   have im4 := @qAT.mono
   exact zm
  ·intro y0 y1 y2 y3 y4 y5 y6 y7 y8 y9 y10 y11 y12
   unfold qAJ.j1
   have im0 := @qAZ.mono
   have im1 := @qAQ.mono
   have im2 := @qBQ.mono
   have im3 := @qA5.mono
   have im4 := @qAT.mono
   exact zm
  ·intro y0 y1 y2 y3 y4 y5 y6 y7 y8 y9 y10 y11 y12 y13 y14 y15
   unfold qAJ.l1
   have im0 := @qAZ.mono
   have im1 := @qAQ.mono
   have im2 := @qBQ.mono
   have im3 := @qA5.mono
   have im4 := @qAT.mono
   exact zm
  ·intro y0 y1 y2 y3 y4 y5 y6 y7 y8 y9 y10 y11 y12 y13 y14 y15 y16 y17 y18
   unfold qAJ.j3
   have im0 := @qAZ.mono
   have im1 := @qAQ.mono
   have im2 := @qBQ.mono
   have im3 := @qA5.mono
   have im4 := @qAT.mono
   exact zm
theorem qAJ.mono : ∀ a0 a1 k, LeO (qAJ.f k a0 a1) (qAJ.f (k + 1) a0 a1) := by
 intro a0 a1 k
 obtain ⟨ih0, ih1, ih2, ih3⟩ := qAJ.qC6 k
 unfold qAJ.f
 have im0 := @qAZ.mono
 have im1 := @qAQ.mono
 have im2 := @qBQ.mono
 have im3 := @qA5.mono
 have im4 := @qAT.mono
 exact zm
def qAJ.T22 : Bool × List (List Nat × List Nat) := (true, [([], []), ([0], [0]), ([], []), ([2], [2]), ([1, 3, 1], [1, 3]), ([4], [4]), ([5], [5]), ([5], [5]), ([6, 4, 0, 1, 2, 3, 4, 5, 6], [6]), ([7, 8, 0, 1, 2, 3, 4, 5, 6, 7, 8], [7])])
def qAJ.B22 : List Nat := [0, 1, 0, 4, 15, 31, 63, 63, 127, 511]
theorem qAJ.tab22 : rtab .any (opsOf Tryz.f75 22) = qAJ.T22 := by kernel_rfl
theorem qAJ.bits22 : qDW qAJ.T22.2 qAJ.B22 = true := by kernel_rfl
theorem qAJ.calls (k : Nat) (A0 : Option Addr) (c0 : Nat) (l0 : List (S76)) (A1 : Option Addr) (c1 : Nat) (l1 : List (S66)) (r1 : Int) (r2 : Int) (w : World) (hr0 : Kd.C k76 w A0 l0.length l0) (hc0 : l0.length ≤ c0) (hr1 : Kd.C k66 w A1 l1.length l1) (hc1 : l1.length ≤ c1) (h : qAJ.f k l0 l1 = some (r1, r2)) :
  Calls Tryz.prog 75 #[.slice A0 l0.length c0, .slice A1 l1.length c1] w fun e w' => e = .returned (.tuple #[.int .i64 r1, .int .i64 r2]) ∧ Below w.heap.size w w' := by
 have hu66 := Tryz.underlying66
 have hu95 := Tryz.underlying95
 have HR0 := qA0.mk hr0
 have HC0 := qA0.mk hc0
 clear hr0 hc0
 have HR1 := qA0.mk hr1
 have HC1 := qA0.mk hc1
 clear hr1 hc1
 have HB := qA0.mk (Below.refl w.heap.size w)
 have H := h
 unfold qAJ.f at H
 clear h
 replace H := zi H
 obtain ⟨t263, A30, H⟩ := H
 have A3 := qA0.mk A30
 clear A30
 by_cases c4 : t263 = 0
 rotate_left
 ·rw [if_neg c4] at H
  have ⟨c4b0, c4b1⟩ := zn c4
  simp only [Option.some.injEq, Prod.mk.injEq] at H
  obtain ⟨rfl, rfl⟩ := H
  go_enter Tryz.func75, Tryz.ntmps75
  go_wp2_with (((with_reducible refine qA6 (f := 110) rfl ?_); refine qBP (some 20) Tryz.func110 #[.slice A1 l1.length c1] ?_; (with_reducible refine (qAZ.calls k _ _ l1 t263 _ ?side1 ?side2 A3.out).mono ?_); (case side1 => repeat (first | exact HR1.out | refine sC ?_)); (case side2 => exact HC1.out); rintro e w125 ⟨rfl, hb⟩; refine ⟨_, rfl, ?_⟩; replace HB := zB hb; (try clear hb hk); (try clear hb)))
  go_ret2
  exact ⟨zf, zb⟩
 rw [if_pos c4] at H
 have ⟨c4b0, c4b1⟩ := ze c4
 clear c4
 by_cases c5 : 0 ≤ (l1.length : Int)
 rotate_left
 ·rw [if_neg c5] at H
  cases H
 rw [if_pos c5] at H
 have c5b0 := eq_true c5
 have c5b1 := decide_eq_true c5
 clear c5
 by_cases c6 : ((l1.length : Int) : Int).toNat ≤ 35184372088832
 rotate_left
 ·rw [if_neg c6] at H
  cases H
 rw [if_pos c6] at H
 have c6b0 := eq_true c6
 have c6b1 := decide_eq_true c6
 clear c6
 obtain ⟨y264, hy_⟩ : ∃ y_ : List Int, y_ = (List.replicate ((l1.length : Int) : Int).toNat 0) := ⟨_, rfl⟩
 replace H : (qAJ.l0 k l0 l1 y264 l1 (l1.length : Int) 0) = some (r1, r2) := zr
 have Ny264 := qA0.mk hy_
 clear hy_
 have H' := qA0.mk H
 clear H
 go_enter Tryz.func75, Tryz.ntmps75
 go_wp2_with (first | ((with_reducible refine qA6 (f := 110) rfl ?_); refine qBP (some 20) Tryz.func110 #[.slice A1 l1.length c1] ?_; (with_reducible refine (qAZ.calls k _ _ l1 t263 _ ?side1 ?side2 A3.out).mono ?_); (case side1 => repeat (first | exact HR1.out | refine sC ?_)); (case side2 => exact HC1.out); rintro e w7 ⟨rfl, hb⟩; refine ⟨_, rfl, ?_⟩; replace HB := zB hb; (try clear hb hk); (try clear hb)) | ((with_reducible refine qA9 (N := 26) rfl ?_); refine Kd.R_make (Kd.int .i64) _ 3 rfl (N := 26) rfl 24 _ _ rfl (l1.length : Int) rfl rfl Tryz.underlying24 (.int .i64 0) 8 info3 rfl (by decide) (by omega) 0 (ok := fun _ => True) (okp := fun _ => True) rfl (fun _ hk => hk) trivial (zd) (Nat.le_trans (Nat.mul_le_mul_right _ (zd : (l1.length : Int).toNat ≤ 35184372088832)) (by omega)) (Below.refl _ _) (Nat.le_refl _) ?_; intro v265 w8 ho9 hb hg_ hnew_; clear hg_ hnew_; (first | rw [← Ny264.out] at ho9 | (simp only [Int.reduceToNat] at ho9; rw [← Ny264.out] at ho9)); have HO266 := qA0.mk (Kd.qCI ho9 (qAI zb)); replace HB := zB hb; clear hb ho9))
 go_loopg [29] k (fun kq v29 w' => ∃ (x7_1 : List Int) (x29_1 : Int), v29 = .int .i64 x29_1 ∧ qA0 (qAJ.l0 kq l0 l1 x7_1 l1 (l1.length : Int) x29_1 = some (r1, r2)) ∧ qA0 (kq ≤ k) ∧ qA0 (Kd.R (Kd.int .i64) 3 w' w.heap.size (fun _ => True) v265 x7_1) ∧ qA0 (Below w.heap.size w w'))
 case atStart => exact ⟨(y264), (0), zs, H', ⟨Nat.le_refl _⟩, zR HO266, ⟨zb⟩⟩
 clear H' c4b0 c4b1 c5b0 c5b1 c6b0 c6b1
 obtain ⟨x7_1, x29_1, rfl, HA, HK1, HO_7, HB⟩ := hrel
 obtain _ | k1 := gk
 ·exact absurd HA.out (by simp [qAJ.l0])
 have H := HA.out
 clear HA
 simp only [qAJ.l0] at H
 by_cases c10 : x29_1 < (l1.length : Int)
 rotate_left
 ·rw [if_neg c10] at H
  have c10b0 := decide_eq_false c10
  clear c10
  obtain ⟨ji121, hji121⟩ : ∃ j_ : Int, (wrap64 ((l1.length : Int) - 1)) = j_ := ⟨_, rfl⟩
  replace H : (if 0 ≤ (ji121) then (if (ji121) < (x7_1.length : Int) then (some (rd x7_1 (ji121), 0)) else (none)) else (none)) = some (r1, r2) := by first | (rw [hji121] at H; exact H) | (simp only [hji121] at H ⊢; exact H)
  have hji121w : (IntKind.i64.wrap ((l1.length : Int) - 1)) = ji121 := (qC9 _).trans hji121
  by_cases c122 : 0 ≤ (ji121)
  rotate_left
  ·rw [if_neg c122] at H
   cases H
  rw [if_pos c122] at H
  have c122b0 := decide_eq_true c122
  clear c122
  by_cases c123 : (ji121) < (x7_1.length : Int)
  rotate_left
  ·rw [if_neg c123] at H
   cases H
  rw [if_pos c123] at H
  have c123b0 := decide_eq_true c123
  clear c123
  simp only [Option.some.injEq, Prod.mk.injEq] at H
  obtain ⟨rfl, rfl⟩ := H
  obtain ⟨Ao124, co124, eo124⟩ := Kd.qBV HO_7.out
  subst eo124
  have p267 : 0 ≤ ((ji121) : Int) := zd
  have q267 : (ji121) < (x7_1.length : Int) := zd
  obtain ⟨ad267, e267, hx267_0⟩ := Kd.qC2 (Kd.qB3 HO_7.out).2.2 (ji121) p267 q267
  cases e267
  replace p267 := eq_true p267
  replace q267 := eq_true q267
  go_wp2
  go_ret2
  exact ⟨by first | rfl | (simp [qDI, qDH] <;> rfl) | (simp only [← hji121]; first | rfl | (simp [qDI, qDH] <;> rfl)) | (simp [*, qDI, qDH] <;> rfl), zb⟩
 rw [if_pos c10] at H
 have c10b0 := decide_eq_true c10
 clear c10
 by_cases c11 : 0 ≤ x29_1
 rotate_left
 ·rw [if_neg c11] at H
  cases H
 rw [if_pos c11] at H
 have c11b0 := decide_eq_true c11
 clear c11
 by_cases c12 : x29_1 < (l1.length : Int)
 rotate_left
 ·rw [if_neg c12] at H
  cases H
 rw [if_pos c12] at H
 have c12b0 := decide_eq_true c12
 clear c12
 have HC13 := qA0.mk H
 clear H
 have p268 : 0 ≤ (x29_1 : Int) := zd
 have q268 : x29_1 < (l1.length : Int) := zd
 obtain ⟨ad268, A268_1, c268_1, e268, hx268_0, hx268_1, hx268_2, hx268_3, hx268_4, hl268_1, hi268_1⟩ := at_T66 HR1.out x29_1 p268 q268
 cases e268
 (try replace hx268_0 := zh hx268_0)
 replace hx268_1 := zh hx268_1
 replace hx268_2 := zh hx268_2
 replace hx268_3 := zh hx268_3
 replace hx268_4 := zh hx268_4
 have HR268_1 := qA0.mk hi268_1
 have HC268_1 := qA0.mk hl268_1
 clear hi268_1 hl268_1
 replace p268 := eq_true p268
 replace q268 := eq_true q268
 go_upto_region 8 with (((with_reducible refine qA9 (N := 9) rfl ?_); refine boxZ 9 #[.int .i64 0, .slice none 0 0, .int .i64 0, .int .i64 0, .string (⟨#[]⟩ : ByteArray)] 66 ?_; intro gb269 hg w14 hbox hb; have BK269 := qA0.mk (hbox); have GW269 := zg w gb269; have GE269 := zg w gb269; replace HO_7 := qA0.mk (Kd.qBN (by (with_reducible repeat refine sR ?_); exact HO_7.out) hb); replace HB := zB hb; clear hb hbox hg; obtain ⟨hcz15_0, hcz15_1, hcz15_2, hcz15_3, hcz15_4, hfz15_0, hfz15_1, hfz15_2, hfz15_3, hfz15_4⟩ := bc5 BK269.out))
 go_cut [46] (fun v46 wc => ∃ (kq : Nat) (x46_12 : Bool), v46 = .bool x46_12 ∧ qA0 (qAJ.j1 kq l0 l1 x7_1 x29_1 l1 (l1.length : Int) x29_1 x46_12 ((qA3 l1 x29_1).f0) ((qA3 l1 x29_1).f1) ((qA3 l1 x29_1).f2) ((qA3 l1 x29_1).f3) ((qA3 l1 x29_1).f4) = some (r1, r2)) ∧ qA0 (kq ≤ k1) ∧ qA0 (Kd.R (Kd.int .i64) 3 wc w.heap.size (fun _ => True) v265 x7_1) ∧ qA0 (wc.heap[gb269]? = some (.cells #[.int .i64 ((qA3 l1 x29_1).f0), (.slice A268_1 ((qA3 l1 x29_1).f1).length c268_1), .int .i64 ((qA3 l1 x29_1).f2), .int .i64 ((qA3 l1 x29_1).f3), .string ((qA3 l1 x29_1).f4)] 66 (0, 0))) ∧ qA0 (Below w.heap.size w wc))
 case first =>
  have H := HC13.out
  clear HC13
  by_cases c16 : ((qA3 l1 x29_1).f0) = 1
  ·rw [if_pos c16] at H
   have ⟨c16b0, c16b1⟩ := ze c16
   clear c16
   (first | rw [c16b0] | (simp only [qC9, qCB]; rw [c16b0]) | skip)
   have H' := qA0.mk H
   clear H
   obtain ⟨hcz17_0, hcz17_1, hcz17_2, hcz17_3, hcz17_4, hfz17_0, hfz17_1, hfz17_2, hfz17_3, hfz17_4⟩ := bc5 BK269.out
   go_wp2
   go_meet
   case rel => exact ⟨_, (true), zs, H', ⟨by have := HK1.out; first | omega | exact Nat.le_refl _⟩, ⟨by (with_reducible repeat refine sR ?_); exact Kd.qB7 (Kd.qAW (Kd.qAW (Kd.qAW (Kd.qAW (Kd.qAW (Kd.qBG HO_7.out BK269.out (by decide)) (fun _ hk => hk.2) _) (fun _ hk => hk.2) _) (fun _ hk => hk.2) _) (fun _ hk => hk.2) _) (fun _ hk => hk.2) _) (fun _ hk => trivial)⟩, ⟨zp5 BK269⟩, ⟨zb⟩⟩
  rw [if_neg c16] at H
  have ⟨c16b0, c16b1⟩ := zn c16
  (first | rw [c16b0] | (simp only [qC9, qCB]; rw [c16b0]) | skip)
  by_cases c18 : ((qA3 l1 x29_1).f0) = 2
  rotate_left
  ·rw [if_neg c18] at H
   have ⟨c18b0, c18b1⟩ := zn c18
   have H' := qA0.mk H
   clear H
   obtain ⟨hcz20_0, hcz20_1, hcz20_2, hcz20_3, hcz20_4, hfz20_0, hfz20_1, hfz20_2, hfz20_3, hfz20_4⟩ := bc5 BK269.out
   go_wp2
   go_meet
   case rel => exact ⟨_, ((((qA3 l1 x29_1).f0) == 3)), zs, H', ⟨by have := HK1.out; first | omega | exact Nat.le_refl _⟩, ⟨by (with_reducible repeat refine sR ?_); exact Kd.qB7 (Kd.qAW (Kd.qAW (Kd.qAW (Kd.qAW (Kd.qAW (Kd.qBG HO_7.out BK269.out (by decide)) (fun _ hk => hk.2) _) (fun _ hk => hk.2) _) (fun _ hk => hk.2) _) (fun _ hk => hk.2) _) (fun _ hk => hk.2) _) (fun _ hk => trivial)⟩, ⟨zp5 BK269⟩, ⟨zb⟩⟩
  rw [if_pos c18] at H
  have ⟨c18b0, c18b1⟩ := ze c18
  clear c18
  have H' := qA0.mk H
  clear H
  obtain ⟨hcz19_0, hcz19_1, hcz19_2, hcz19_3, hcz19_4, hfz19_0, hfz19_1, hfz19_2, hfz19_3, hfz19_4⟩ := bc5 BK269.out
  go_wp2
  go_meet
  case rel => exact ⟨_, (true), zs, H', ⟨by have := HK1.out; first | omega | exact Nat.le_refl _⟩, ⟨by (with_reducible repeat refine sR ?_); exact Kd.qB7 (Kd.qAW (Kd.qAW (Kd.qAW (Kd.qAW (Kd.qAW (Kd.qBG HO_7.out BK269.out (by decide)) (fun _ hk => hk.2) _) (fun _ hk => hk.2) _) (fun _ hk => hk.2) _) (fun _ hk => hk.2) _) (fun _ hk => hk.2) _) (fun _ hk => trivial)⟩, ⟨zp5 BK269⟩, ⟨zb⟩⟩
 clear HC13 c10b0 c11b0 c12b0 hcz15_0 hcz15_1 hcz15_2 hcz15_3 hcz15_4 hfz15_0 hfz15_1 hfz15_2 hfz15_3 hfz15_4 hx268_0 hx268_1 hx268_2 hx268_3 hx268_4 p268 q268
 obtain ⟨kq, x46_12, rfl, HA, HJ12, HO_7, BK269, HB⟩ := hcut
 obtain _ | kj12 := kq
 ·exact absurd HA.out (by simp [qAJ.j1])
 have H := HA.out
 clear HA
 simp only [qAJ.j1] at H
 by_cases c21 : x46_12 = true
 ·subst c21
  rw [if_pos rfl] at H
  replace H := zi H
  obtain ⟨⟨t270, t271⟩, A220, H⟩ := H
  dsimp only at H
  have A22 := qA0.mk A220
  clear A220
  by_cases c23 : t271 = 0
  rotate_left
  ·rw [if_neg c23] at H
   have ⟨c23b0, c23b1⟩ := zn c23
   simp only [Option.some.injEq, Prod.mk.injEq] at H
   obtain ⟨rfl, rfl⟩ := H
   obtain ⟨hcz31_0, hcz31_1, hcz31_2, hcz31_3, hcz31_4, hfz31_0, hfz31_1, hfz31_2, hfz31_3, hfz31_4⟩ := bc5 BK269.out
   go_wp2_with (((with_reducible refine qA6 (f := 111) rfl ?_); refine qBP (some 50) Tryz.func111 #[.slice A0 l0.length c0, .agg #[.int .i64 ((qA3 l1 x29_1).f0), .slice A268_1 ((qA3 l1 x29_1).f1).length c268_1, .int .i64 ((qA3 l1 x29_1).f2), .int .i64 ((qA3 l1 x29_1).f3), .string ((qA3 l1 x29_1).f4)]] ?_; (with_reducible refine (qAT.calls kj12 _ _ l0 ((qA3 l1 x29_1).f0) _ _ ((qA3 l1 x29_1).f1) ((qA3 l1 x29_1).f2) ((qA3 l1 x29_1).f3) ((qA3 l1 x29_1).f4) t270 t271 _ ?side1 ?side2 ?side3 ?side4 A22.out).mono ?_); (case side1 => repeat (first | exact (Kd.qAE HR0.out HB.out) | refine sC ?_)); (case side2 => exact HC0.out); (case side3 => repeat (first | exact (Kd.qAE HR268_1.out HB.out) | refine sC ?_)); (case side4 => exact HC268_1.out); rintro e w32 ⟨rfl, hb⟩; refine ⟨_, rfl, ?_⟩; replace HO_7 := qA0.mk (Kd.qBN (by (with_reducible repeat refine sR ?_); exact HO_7.out) hb); replace BK269 := zK BK269 hb; replace HB := zB hb; (try clear hb hk); (try clear hb)))
   go_ret2
   exact ⟨zf, zb⟩
  rw [if_pos c23] at H
  have ⟨c23b0, c23b1⟩ := ze c23
  clear c23
  by_cases c24 : 0 ≤ x29_1
  rotate_left
  ·rw [if_neg c24] at H
   cases H
  rw [if_pos c24] at H
  have c24b0 := decide_eq_true c24
  clear c24
  by_cases c25 : x29_1 < (x7_1.length : Int)
  rotate_left
  ·rw [if_neg c25] at H
   cases H
  rw [if_pos c25] at H
  have c25b0 := decide_eq_true c25
  clear c25
  obtain ⟨y272, hy_⟩ : ∃ y_ : List Int, y_ = (x7_1.set (x29_1 : Int).toNat t270) := ⟨_, rfl⟩
  replace H : (qAJ.l0 kj12 l0 l1 y272 l1 (l1.length : Int) (wrap64 (x29_1 + 1))) = some (r1, r2) := zr
  have Ny272 := qA0.mk hy_
  clear hy_
  have H' := qA0.mk H
  clear H
  obtain ⟨hcz27_0, hcz27_1, hcz27_2, hcz27_3, hcz27_4, hfz27_0, hfz27_1, hfz27_2, hfz27_3, hfz27_4⟩ := bc5 BK269.out
  go_wp2_with (first | ((with_reducible refine qA6 (f := 111) rfl ?_); refine qBP (some 50) Tryz.func111 #[.slice A0 l0.length c0, .agg #[.int .i64 ((qA3 l1 x29_1).f0), .slice A268_1 ((qA3 l1 x29_1).f1).length c268_1, .int .i64 ((qA3 l1 x29_1).f2), .int .i64 ((qA3 l1 x29_1).f3), .string ((qA3 l1 x29_1).f4)]] ?_; (with_reducible refine (qAT.calls kj12 _ _ l0 ((qA3 l1 x29_1).f0) _ _ ((qA3 l1 x29_1).f1) ((qA3 l1 x29_1).f2) ((qA3 l1 x29_1).f3) ((qA3 l1 x29_1).f4) t270 t271 _ ?side1 ?side2 ?side3 ?side4 A22.out).mono ?_); (case side1 => repeat (first | exact (Kd.qAE HR0.out HB.out) | refine sC ?_)); (case side2 => exact HC0.out); (case side3 => repeat (first | exact (Kd.qAE HR268_1.out HB.out) | refine sC ?_)); (case side4 => exact HC268_1.out); rintro e w28 ⟨rfl, hb⟩; refine ⟨_, rfl, ?_⟩; replace HO_7 := qA0.mk (Kd.qBN (by (with_reducible repeat refine sR ?_); exact HO_7.out) hb); replace BK269 := zK BK269 hb; replace HB := zB hb; (try clear hb hk); (try clear hb); have p26 : 0 ≤ (x29_1 : Int) := zd; have q26 : (x29_1 : Int) < ((x7_1.length : Int) : Int) := zd; obtain ⟨go26, co26, eo26, gb26, gl26, cl26, HG26⟩ := Kd.R_form HO_7.out (by omega); (first | cases eo26 | (injection eo26 with ea_ en_ ec_; (first | subst ea_ | (injection ea_ with ea_; subst ea_)); subst ec_; clear en_)); have GB26 := qA0.mk gb26; have GG26 := qA0.mk HG26; clear gb26 gl26 HG26; obtain ⟨hx26_0, hf26_0⟩ := Kd.R_celln 0 HO_7.out (x29_1 : Int) p26 q26; replace p26 := eq_true p26; replace q26 := eq_true q26; obtain ⟨hy29_, hz29_⟩ := Kd.R_celln 0 HO_7.out (x29_1 : Int) (zd) (zd); have HP29 := Kd.R_putg HO_7.out (x29_1 : Int) t270) | ((with_reducible refine qDP (t := 3) (p := 59) rfl ?_); refine qE8 (t := 3) (p := 59) (v := ?vo_w30) (w1 := (w28.setCell ⟨go26, (x29_1 : Int).toNat, none⟩ (.int .i64 t270))) ?hg ?ho ?hn ?hr ?_; (case ho => rfl); (case hg => rfl); (case hn => rfl); (case hr => first | (go_simp; done) | (go_simp; rfl)); intro w30 hw; have hg : w28.grownBy w30 (some go26) := (by rw [hw]; exact HP29.2); have hp_ : Kd.R (Kd.int .i64) 3 w30 w.heap.size (fun _ => True) (.slice (some ⟨go26, 0, none⟩) x7_1.length co26) y272 := (by rw [hw, Ny272.out]; exact HP29.1); clear HP29; replace BK269 := qA0.mk (qAO (g := gb269) (o := .cells #[.int .i64 ((qA3 l1 x29_1).f0), .slice A268_1 ((qA3 l1 x29_1).f1).length c268_1, .int .i64 ((qA3 l1 x29_1).f2), .int .i64 ((qA3 l1 x29_1).f3), .string ((qA3 l1 x29_1).f4)] 66 (0, 0)) (zk BK269) hg (Kd.R_ne HO_7.out BK269.out (by decide))); replace HO_7 := qA0.mk (hp_); replace HB := qA0.mk ((by rw [hw]; exact qA7 (HB.out) GB26.out : Below w.heap.size w w30)); clear hg hw hp_))
  go_roundg kj12
  case measure => have := HK1.out; have := HJ12.out; omega
  case rel => exact ⟨(y272), (wrap64 (x29_1 + 1)), zs, H', ⟨by have := HK1.out; have := HJ12.out; omega⟩, zR HO_7, ⟨zb⟩⟩
 replace c21 := Bool.eq_false_iff.mpr c21
 subst c21
 rw [zj] at H
 have H' := qA0.mk H
 clear H
 obtain ⟨hcz33_0, hcz33_1, hcz33_2, hcz33_3, hcz33_4, hfz33_0, hfz33_1, hfz33_2, hfz33_3, hfz33_4⟩ := bc5 BK269.out
 go_wp2
 go_loopg [12, 63] kj12 (fun kq v12 v63 w' => ∃ (x12_3 : List Int) (x63_3 : Int), v63 = .int .i64 x63_3 ∧ qA0 (qAJ.l1 kq l0 l1 x7_1 x29_1 x12_3 l1 (l1.length : Int) x29_1 ((qA3 l1 x29_1).f1) (((qA3 l1 x29_1).f1).length : Int) x63_3 ((qA3 l1 x29_1).f0) ((qA3 l1 x29_1).f1) ((qA3 l1 x29_1).f2) ((qA3 l1 x29_1).f3) ((qA3 l1 x29_1).f4) = some (r1, r2)) ∧ qA0 (kq ≤ kj12) ∧ qA0 (Kd.R (Kd.int .i64) 3 w' w.heap.size (fun k_ => some k_ ≠ (v12 : Value).ownBlock) v265 x7_1) ∧ qA0 (Kd.R (Kd.int .i64) 3 w' w.heap.size (fun k_ => some k_ ≠ (v265 : Value).ownBlock) v12 x12_3) ∧ qA0 (w'.heap[gb269]? = some (.cells #[.int .i64 ((qA3 l1 x29_1).f0), (.slice A268_1 ((qA3 l1 x29_1).f1).length c268_1), .int .i64 ((qA3 l1 x29_1).f2), .int .i64 ((qA3 l1 x29_1).f3), .string ((qA3 l1 x29_1).f4)] 66 (0, 0))) ∧ qA0 (Below w.heap.size w w'))
 case atStart => exact ⟨(([] : List Int)), (0), zs, H', ⟨Nat.le_refl _⟩, ⟨by (with_reducible repeat refine sR ?_); exact Kd.qB7 HO_7.out (fun _ hk => (by simp [Value.ownBlock]))⟩, ⟨by first | exact Kd.qEM _ _ _ _ _ | exact Kd.N_nil _ _ _ _ _ | exact Kd.qF4 _ _ _ _ _ | exact Kd.Q_nil _ _ _ _ _ | exact Kd.qFB _ _ _ _ _⟩, ⟨zk BK269⟩, ⟨zb⟩⟩
 clear H' hcz33_0 hcz33_1 hcz33_2 hcz33_3 hcz33_4 hfz33_0 hfz33_1 hfz33_2 hfz33_3 hfz33_4
 obtain ⟨x12_3, x63_3, rfl, HA, HK3, HO_7, HO_12, BK269, HB⟩ := hrel
 obtain _ | k3 := gk
 ·exact absurd HA.out (by simp [qAJ.l1])
 have H := HA.out
 clear HA
 simp only [qAJ.l1] at H
 by_cases c34 : x63_3 < (((qA3 l1 x29_1).f1).length : Int)
 ·rw [if_pos c34] at H
  have c34b0 := decide_eq_true c34
  clear c34
  by_cases c35 : 0 ≤ x63_3
  rotate_left
  ·rw [if_neg c35] at H
   cases H
  rw [if_pos c35] at H
  have c35b0 := decide_eq_true c35
  clear c35
  by_cases c36 : x63_3 < (((qA3 l1 x29_1).f1).length : Int)
  rotate_left
  ·rw [if_neg c36] at H
   cases H
  rw [if_pos c36] at H
  have c36b0 := decide_eq_true c36
  clear c36
  by_cases c37 : 0 ≤ (rd ((qA3 l1 x29_1).f1) x63_3)
  rotate_left
  ·rw [if_neg c37] at H
   cases H
  rw [if_pos c37] at H
  have c37b0 := decide_eq_true c37
  clear c37
  by_cases c38 : (rd ((qA3 l1 x29_1).f1) x63_3) < (x7_1.length : Int)
  rotate_left
  ·rw [if_neg c38] at H
   cases H
  rw [if_pos c38] at H
  have c38b0 := decide_eq_true c38
  clear c38
  by_cases c39 : x12_3.length < 17592186044416
  rotate_left
  ·rw [if_neg c39] at H
   cases H
  rw [if_pos c39] at H
  have LMc39 := qA0.mk c39
  clear c39
  obtain ⟨y275, hy_⟩ : ∃ y_ : List Int, y_ = (x12_3 ++ [rd x7_1 (rd ((qA3 l1 x29_1).f1) x63_3)]) := ⟨_, rfl⟩
  replace H : (qAJ.l1 k3 l0 l1 x7_1 x29_1 y275 l1 (l1.length : Int) x29_1 ((qA3 l1 x29_1).f1) (((qA3 l1 x29_1).f1).length : Int) (wrap64 (x63_3 + 1)) ((qA3 l1 x29_1).f0) ((qA3 l1 x29_1).f1) ((qA3 l1 x29_1).f2) ((qA3 l1 x29_1).f3) ((qA3 l1 x29_1).f4)) = some (r1, r2) := zr
  have Ny275 := qA0.mk hy_
  clear hy_
  have H' := qA0.mk H
  clear H
  have p273 : 0 ≤ (x63_3 : Int) := zd
  have q273 : x63_3 < (((qA3 l1 x29_1).f1).length : Int) := zd
  obtain ⟨ad273, e273, hx273_0⟩ := Kd.qC2 HR268_1.out x63_3 p273 q273
  cases e273
  (try replace hx273_0 := zh hx273_0)
  replace p273 := eq_true p273
  replace q273 := eq_true q273
  obtain ⟨Ao40, co40, eo40⟩ := Kd.qBV HO_7.out
  subst eo40
  have p274 : 0 ≤ ((rd ((qA3 l1 x29_1).f1) x63_3) : Int) := zd
  have q274 : (rd ((qA3 l1 x29_1).f1) x63_3) < (x7_1.length : Int) := zd
  obtain ⟨ad274, e274, hx274_0⟩ := Kd.qC2 (Kd.qB3 HO_7.out).2.2 (rd ((qA3 l1 x29_1).f1) x63_3) p274 q274
  cases e274
  replace p274 := eq_true p274
  replace q274 := eq_true q274
  go_wp2_with (((with_reducible refine qDS (b := .append) (xs := #[.tmp 67, .tmp 72]) rfl ?_); at_builtin; refine Kd.qFF (Kd.int .i64) (w0 := w) w.heap.size rfl (.tmp 67) (.tmp 72) 24 3 (.int .i64 0) 8 rfl Tryz.underlying24 info3 rfl (by decide) (by omega) u12 x12_3 (rd x7_1 (rd ((qA3 l1 x29_1).f1) x63_3)) [.int .i64 (rd x7_1 (rd ((qA3 l1 x29_1).f1) x63_3))] (fun k_ => some k_ ≠ (.slice (some ad274) x7_1.length co40 : Value).ownBlock) (fun _ => False) rfl rfl ?aP (fun _ hk => hk.elim) ?aF ?aO ?aB ?aS ?aL ?_; (case aP => exact rfl); (case aB => exact zb); (case aF => exact (fun k_ hk => Kd.fresh' (Kd.R_lt (by (with_reducible repeat refine sR ?_); exact HO_7.out)) k_ hk)); (case aO => exact (by (with_reducible repeat refine sR ?_); exact HO_12.out)); (case aS => exact (qAI zb)); (case aL => have := LMc39.out; omega); intro v276 w41 ho hb hg hat; rw [← Ny275.out] at ho; have HO277 := qA0.mk (ho); replace HO_7 := qA0.mk (Kd.R_after (ok := (fun _ => True)) (by (with_reducible repeat refine sR ?_); exact Kd.qB7 HO_7.out (fun _ hk => ⟨trivial, hk⟩)) hg hat); replace BK269 := qA0.mk (qAO (g := gb269) (o := .cells #[.int .i64 ((qA3 l1 x29_1).f0), .slice (some ad273) ((qA3 l1 x29_1).f1).length c268_1, .int .i64 ((qA3 l1 x29_1).f2), .int .i64 ((qA3 l1 x29_1).f3), .string ((qA3 l1 x29_1).f4)] 66 (0, 0)) (zk BK269) hg (Kd.R_ne HO_12.out BK269.out (by decide))); replace HB := qA0.mk (hb); clear HO_12; clear ho hb hg hat))
  go_roundg k3
  case measure => have := HK1.out; have := HJ12.out; have := HK3.out; omega
  case rel => exact ⟨(y275), (wrap64 (x63_3 + 1)), zs, H', ⟨by have := HK1.out; have := HJ12.out; have := HK3.out; omega⟩, ⟨by (with_reducible repeat refine sR ?_); exact Kd.qB7 HO_7.out (fun _ hk => hk.2)⟩, zR HO277, ⟨zk BK269⟩, ⟨zb⟩⟩
 rw [if_neg c34] at H
 have c34b0 := decide_eq_false c34
 clear c34
 by_cases c42 : ((qA3 l1 x29_1).f0) = 16
 rotate_left
 ·rw [if_neg c42] at H
  have ⟨c42b0, c42b1⟩ := zn c42
  replace H := zi H
  obtain ⟨⟨t295, t296⟩, A1020, H⟩ := H
  dsimp only at H
  have A102 := qA0.mk A1020
  clear A1020
  by_cases c103 : t296 = true
  rotate_left
  ·replace c103 := Bool.eq_false_iff.mpr c103
   subst c103
   rw [zj] at H
   simp only [Option.some.injEq, Prod.mk.injEq] at H
   obtain ⟨rfl, rfl⟩ := H
   go_wp2_with (first | ((with_reducible refine qA9 (N := 15) rfl ?_); refine boxZ 15 #[.string (⟨#[]⟩ : ByteArray), .int .i64 0, .int .i64 0, .bool false, .slice none 0 0] 95 ?_; intro gb278 hg w115 hbox hb; have BK278 := qA0.mk (hbox); have GW278 := zg w gb278; have GE278 := zg w gb278; have NB269_278 := zl BK269 gb278; have NB278_269 := zu BK269 gb278; replace HO_7 := qA0.mk (Kd.qBN (by (with_reducible repeat refine sR ?_); exact HO_7.out) hb); replace HO_12 := qA0.mk (Kd.qBN (by (with_reducible repeat refine sR ?_); exact HO_12.out) hb); replace BK269 := zK BK269 hb; replace HB := zB hb; clear hb hbox hg; have hnb116 := NB278_269.out; have hnc116 := NB269_278.out; obtain ⟨hcz117_0, hcz117_1, hcz117_2, hcz117_3, hcz117_4, hfz117_0, hfz117_1, hfz117_2, hfz117_3, hfz117_4⟩ := bc5 BK278.out; obtain ⟨hcz118_0, hcz118_1, hcz118_2, hcz118_3, hcz118_4, hfz118_0, hfz118_1, hfz118_2, hfz118_3, hfz118_4⟩ := bc5 BK269.out; obtain ⟨Ao119, co119, eo119⟩ := Kd.qBV HO_12.out; subst eo119) | ((with_reducible refine qA6 (f := 115) rfl ?_); refine qBP (some 103) Tryz.func115 #[.agg #[.int .i64 ((qA3 l1 x29_1).f0), .slice A268_1 ((qA3 l1 x29_1).f1).length c268_1, .int .i64 ((qA3 l1 x29_1).f2), .int .i64 ((qA3 l1 x29_1).f3), .string ((qA3 l1 x29_1).f4)], .slice Ao119 x12_3.length co119, .agg #[.string (⟨#[]⟩ : ByteArray), .int .i64 0, .int .i64 0, .bool false, .slice none 0 0]] ?_; (refine (qA5.calls k3 ((qA3 l1 x29_1).f0) _ _ ((qA3 l1 x29_1).f1) ((qA3 l1 x29_1).f2) ((qA3 l1 x29_1).f3) ((qA3 l1 x29_1).f4) _ _ x12_3 (⟨#[]⟩ : ByteArray) 0 0 false _ _ ([] : List (S134)) t295 false _ ?side1 ?side2 ?side3 ?side4 ?side5 ?side6 A102.out).mono ?_); (case side1 => exact Kd.qAE HR268_1.out zb); (case side2 => exact HC268_1.out); (case side3 => refine (Kd.qB3 (e := 3) (base := w.heap.size) (ok := fun k_ => some k_ ≠ (v265 : Value).ownBlock) (n := x12_3.length) (c := co119) ?_).2.2; exact (by (with_reducible repeat refine sR ?_); exact (zRf5 (Kd.qBG HO_12.out BK278.out (by decide))))); (case side4 => exact (Kd.qB3 HO_12.out).2.1); (case side5 => exact Kd.C_nil _ _); (case side6 => exact Nat.le_refl _); rintro e w120 ⟨rfl, hb⟩; refine ⟨_, rfl, ?_⟩; replace HO_7 := qA0.mk (Kd.qBN (by (with_reducible repeat refine sR ?_); exact (zRf5 (Kd.qBG HO_7.out BK278.out (by decide)))) hb); replace HO_12 := qA0.mk (Kd.qBN (by (with_reducible repeat refine sR ?_); exact (zRf5 (Kd.qBG HO_12.out BK278.out (by decide)))) hb); replace BK269 := qA0.mk (qAL (g := gb269) (o := .cells #[.int .i64 ((qA3 l1 x29_1).f0), .slice A268_1 ((qA3 l1 x29_1).f1).length c268_1, .int .i64 ((qA3 l1 x29_1).f2), .int .i64 ((qA3 l1 x29_1).f3), .string ((qA3 l1 x29_1).f4)] 66 (0, 0)) (by refine zf5 ?_ NB269_278; (with_reducible repeat refine st ?_); exact BK269.out) hb); replace BK278 := qA0.mk (qAL (zp5 BK278) hb); replace HB := zB hb; (try clear hb hk); (try clear hb)))
   go_ret2
   exact ⟨zf, zb⟩
  subst c103
  rw [if_pos rfl] at H
  by_cases c104 : 0 ≤ x29_1
  rotate_left
  ·rw [if_neg c104] at H
   cases H
  rw [if_pos c104] at H
  have c104b0 := decide_eq_true c104
  clear c104
  by_cases c105 : x29_1 < (x7_1.length : Int)
  rotate_left
  ·rw [if_neg c105] at H
   cases H
  rw [if_pos c105] at H
  have c105b0 := decide_eq_true c105
  clear c105
  obtain ⟨y297, hy_⟩ : ∃ y_ : List Int, y_ = (x7_1.set (x29_1 : Int).toNat t295) := ⟨_, rfl⟩
  replace H : (qAJ.l0 k3 l0 l1 y297 l1 (l1.length : Int) (wrap64 (x29_1 + 1))) = some (r1, r2) := zr
  have Ny297 := qA0.mk hy_
  clear hy_
  have H' := qA0.mk H
  clear H
  go_wp2_with (first | ((with_reducible refine qA9 (N := 15) rfl ?_); refine boxZ 15 #[.string (⟨#[]⟩ : ByteArray), .int .i64 0, .int .i64 0, .bool false, .slice none 0 0] 95 ?_; intro gb278 hg w107 hbox hb; have BK278 := qA0.mk (hbox); have GW278 := zg w gb278; have GE278 := zg w gb278; have NB269_278 := zl BK269 gb278; have NB278_269 := zu BK269 gb278; replace HO_7 := qA0.mk (Kd.qBN (by (with_reducible repeat refine sR ?_); exact HO_7.out) hb); replace HO_12 := qA0.mk (Kd.qBN (by (with_reducible repeat refine sR ?_); exact HO_12.out) hb); replace BK269 := zK BK269 hb; replace HB := zB hb; clear hb hbox hg; have hnb108 := NB278_269.out; have hnc108 := NB269_278.out; obtain ⟨hcz109_0, hcz109_1, hcz109_2, hcz109_3, hcz109_4, hfz109_0, hfz109_1, hfz109_2, hfz109_3, hfz109_4⟩ := bc5 BK278.out; obtain ⟨hcz110_0, hcz110_1, hcz110_2, hcz110_3, hcz110_4, hfz110_0, hfz110_1, hfz110_2, hfz110_3, hfz110_4⟩ := bc5 BK269.out; obtain ⟨Ao111, co111, eo111⟩ := Kd.qBV HO_12.out; subst eo111) | ((with_reducible refine qA6 (f := 115) rfl ?_); refine qBP (some 103) Tryz.func115 #[.agg #[.int .i64 ((qA3 l1 x29_1).f0), .slice A268_1 ((qA3 l1 x29_1).f1).length c268_1, .int .i64 ((qA3 l1 x29_1).f2), .int .i64 ((qA3 l1 x29_1).f3), .string ((qA3 l1 x29_1).f4)], .slice Ao111 x12_3.length co111, .agg #[.string (⟨#[]⟩ : ByteArray), .int .i64 0, .int .i64 0, .bool false, .slice none 0 0]] ?_; (refine (qA5.calls k3 ((qA3 l1 x29_1).f0) _ _ ((qA3 l1 x29_1).f1) ((qA3 l1 x29_1).f2) ((qA3 l1 x29_1).f3) ((qA3 l1 x29_1).f4) _ _ x12_3 (⟨#[]⟩ : ByteArray) 0 0 false _ _ ([] : List (S134)) t295 true _ ?side1 ?side2 ?side3 ?side4 ?side5 ?side6 A102.out).mono ?_); (case side1 => exact Kd.qAE HR268_1.out zb); (case side2 => exact HC268_1.out); (case side3 => refine (Kd.qB3 (e := 3) (base := w.heap.size) (ok := fun k_ => some k_ ≠ (v265 : Value).ownBlock) (n := x12_3.length) (c := co111) ?_).2.2; exact (by (with_reducible repeat refine sR ?_); exact (zRf5 (Kd.qBG HO_12.out BK278.out (by decide))))); (case side4 => exact (Kd.qB3 HO_12.out).2.1); (case side5 => exact Kd.C_nil _ _); (case side6 => exact Nat.le_refl _); rintro e w112 ⟨rfl, hb⟩; refine ⟨_, rfl, ?_⟩; replace HO_7 := qA0.mk (Kd.qBN (by (with_reducible repeat refine sR ?_); exact (zRf5 (Kd.qBG HO_7.out BK278.out (by decide)))) hb); replace HO_12 := qA0.mk (Kd.qBN (by (with_reducible repeat refine sR ?_); exact (zRf5 (Kd.qBG HO_12.out BK278.out (by decide)))) hb); replace BK269 := qA0.mk (qAL (g := gb269) (o := .cells #[.int .i64 ((qA3 l1 x29_1).f0), .slice A268_1 ((qA3 l1 x29_1).f1).length c268_1, .int .i64 ((qA3 l1 x29_1).f2), .int .i64 ((qA3 l1 x29_1).f3), .string ((qA3 l1 x29_1).f4)] 66 (0, 0)) (by refine zf5 ?_ NB269_278; (with_reducible repeat refine st ?_); exact BK269.out) hb); replace BK278 := qA0.mk (qAL (zp5 BK278) hb); replace HB := zB hb; (try clear hb hk); (try clear hb); have p106 : 0 ≤ (x29_1 : Int) := zd; have q106 : (x29_1 : Int) < ((x7_1.length : Int) : Int) := zd; obtain ⟨go106, co106, eo106, gb106, gl106, cl106, HG106⟩ := Kd.R_form HO_7.out (by omega); (first | cases eo106 | (injection eo106 with ea_ en_ ec_; (first | subst ea_ | (injection ea_ with ea_; subst ea_)); subst ec_; clear en_)); have GB106 := qA0.mk gb106; have GG106 := qA0.mk HG106; clear gb106 gl106 HG106; obtain ⟨hx106_0, hf106_0⟩ := Kd.R_celln 0 HO_7.out (x29_1 : Int) p106 q106; replace p106 := eq_true p106; replace q106 := eq_true q106; obtain ⟨hy113_, hz113_⟩ := Kd.R_celln 0 HO_7.out (x29_1 : Int) (zd) (zd); have HP113 := Kd.R_putg HO_7.out (x29_1 : Int) t295) | ((with_reducible refine qDP (t := 3) (p := 111) rfl ?_); refine qE8 (t := 3) (p := 111) (v := ?vo_w114) (w1 := (w112.setCell ⟨go106, (x29_1 : Int).toNat, none⟩ (.int .i64 t295))) ?hg ?ho ?hn ?hr ?_; (case ho => rfl); (case hg => rfl); (case hn => rfl); (case hr => first | (go_simp; done) | (go_simp; rfl)); intro w114 hw; have hg : w112.grownBy w114 (some go106) := (by rw [hw]; exact HP113.2); have hp_ : Kd.R (Kd.int .i64) 3 w114 w.heap.size (fun k_ => some k_ ≠ (.slice Ao111 x12_3.length co111 : Value).ownBlock) (.slice (some ⟨go106, 0, none⟩) x7_1.length co106) y297 := (by rw [hw, Ny297.out]; exact HP113.1); clear HP113; replace HO_12 := qA0.mk (Kd.R_after (v := (.slice (some ⟨go106, 0, none⟩) x7_1.length co106)) (v1 := (.slice (some ⟨go106, 0, none⟩) x7_1.length co106)) (ok := (fun _ => True)) (by (with_reducible repeat refine sR ?_); exact Kd.qB7 HO_12.out (fun _ hk => ⟨trivial, hk⟩)) hg (.inl rfl)); replace BK269 := qA0.mk (qAO (g := gb269) (o := .cells #[.int .i64 ((qA3 l1 x29_1).f0), .slice A268_1 ((qA3 l1 x29_1).f1).length c268_1, .int .i64 ((qA3 l1 x29_1).f2), .int .i64 ((qA3 l1 x29_1).f3), .string ((qA3 l1 x29_1).f4)] 66 (0, 0)) (zk BK269) hg (Kd.R_ne HO_7.out BK269.out (by decide))); replace BK278 := qA0.mk (qAO (g := gb278) (o := .cells #[.string (⟨#[]⟩ : ByteArray), .int .i64 0, .int .i64 0, .bool false, .slice none 0 0] 95 (0, 0)) (zk BK278) hg (Kd.R_ne HO_7.out BK278.out (by decide))); replace HO_7 := qA0.mk (hp_); replace HB := qA0.mk ((by rw [hw]; exact qA7 (HB.out) GB106.out : Below w.heap.size w w114)); clear hg hw hp_))
  go_roundg k3
  case measure => have := HK1.out; have := HJ12.out; have := HK3.out; omega
  case rel => exact ⟨(y297), (wrap64 (x29_1 + 1)), zs, H', ⟨by have := HK1.out; have := HJ12.out; have := HK3.out; omega⟩, ⟨by (with_reducible repeat refine sR ?_); exact Kd.qB7 HO_7.out (fun _ hk => trivial)⟩, ⟨zb⟩⟩
 rw [if_pos c42] at H
 have ⟨c42b0, c42b1⟩ := ze c42
 clear c42
 replace H := zi H
 obtain ⟨t279, A430, H⟩ := H
 have A43 := qA0.mk A430
 clear A430
 replace H := zi H
 obtain ⟨⟨t282, t283, t284, t285, t286, t289⟩, A440, H⟩ := H
 dsimp only at H
 have A44 := qA0.mk A440
 clear A440
 by_cases c45 : t289 = true
 rotate_left
 ·replace c45 := Bool.eq_false_iff.mpr c45
  subst c45
  rw [zj] at H
  simp only [Option.some.injEq, Prod.mk.injEq] at H
  obtain ⟨rfl, rfl⟩ := H
  try go_wp2_with (((with_reducible refine qA9 (N := 15) rfl ?_); refine boxZ 15 #[.string (⟨#[]⟩ : ByteArray), .int .i64 0, .int .i64 0, .bool false, .slice none 0 0] 95 ?_; intro gb278 hg w87 hbox hb; have BK278 := qA0.mk (hbox); have GW278 := zg w gb278; have GE278 := zg w gb278; have NB269_278 := zl BK269 gb278; have NB278_269 := zu BK269 gb278; replace HO_7 := qA0.mk (Kd.qBN (by (with_reducible repeat refine sR ?_); exact HO_7.out) hb); replace HO_12 := qA0.mk (Kd.qBN (by (with_reducible repeat refine sR ?_); exact HO_12.out) hb); replace BK269 := zK BK269 hb; replace HB := zB hb; clear hb hbox hg; have hnb88 := NB278_269.out; have hnc88 := NB269_278.out; obtain ⟨hcz89_0, hcz89_1, hcz89_2, hcz89_3, hcz89_4, hfz89_0, hfz89_1, hfz89_2, hfz89_3, hfz89_4⟩ := bc5 BK278.out; obtain ⟨hcz90_0, hcz90_1, hcz90_2, hcz90_3, hcz90_4, hfz90_0, hfz90_1, hfz90_2, hfz90_3, hfz90_4⟩ := bc5 BK269.out))
  have n0_ : qA0 (Kd.R (Kd.int .i64) 3 (((((w87.setCell ⟨gb278, 0, none⟩ (.string (⟨#[]⟩ : ByteArray))).setCell ⟨gb278, 1, none⟩ (.int .i64 0)).setCell ⟨gb278, 2, none⟩ (.int .i64 0)).setCell ⟨gb278, 3, none⟩ (.bool false)).setCell ⟨gb278, 4, none⟩ (.slice none 0 0)) w.heap.size (fun k_ => some k_ ≠ (u12 : Value).ownBlock) v265 x7_1) := ⟨by (with_reducible repeat refine sR ?_); exact Kd.qB7 (Kd.qAW (Kd.qAW (Kd.qAW (Kd.qAW (Kd.qAW (Kd.qBG HO_7.out BK278.out (by decide)) (fun _ hk => hk.2) _) (fun _ hk => hk.2) _) (fun _ hk => hk.2) _) (fun _ hk => hk.2) _) (fun _ hk => hk.2) _) (fun _ hk => hk.1)⟩
  have n1_ : qA0 (Kd.R (Kd.int .i64) 3 (((((w87.setCell ⟨gb278, 0, none⟩ (.string (⟨#[]⟩ : ByteArray))).setCell ⟨gb278, 1, none⟩ (.int .i64 0)).setCell ⟨gb278, 2, none⟩ (.int .i64 0)).setCell ⟨gb278, 3, none⟩ (.bool false)).setCell ⟨gb278, 4, none⟩ (.slice none 0 0)) w.heap.size (fun k_ => some k_ ≠ (v265 : Value).ownBlock) u12 x12_3) := ⟨by (with_reducible repeat refine sR ?_); exact Kd.qB7 (Kd.qAW (Kd.qAW (Kd.qAW (Kd.qAW (Kd.qAW (Kd.qBG HO_12.out BK278.out (by decide)) (fun _ hk => hk.2) _) (fun _ hk => hk.2) _) (fun _ hk => hk.2) _) (fun _ hk => hk.2) _) (fun _ hk => hk.2) _) (fun _ hk => hk.1)⟩
  have n2_ : qA0 ((((((w87.setCell ⟨gb278, 0, none⟩ (.string (⟨#[]⟩ : ByteArray))).setCell ⟨gb278, 1, none⟩ (.int .i64 0)).setCell ⟨gb278, 2, none⟩ (.int .i64 0)).setCell ⟨gb278, 3, none⟩ (.bool false)).setCell ⟨gb278, 4, none⟩ (.slice none 0 0)).heap[gb269]? = some (.cells #[.int .i64 ((qA3 l1 x29_1).f0), .slice A268_1 ((qA3 l1 x29_1).f1).length c268_1, .int .i64 ((qA3 l1 x29_1).f2), .int .i64 ((qA3 l1 x29_1).f3), .string ((qA3 l1 x29_1).f4)] 66 (0, 0))) := ⟨by refine zf5 ?_ NB269_278; (with_reducible repeat refine st ?_); exact BK269.out⟩
  have n3_ : qA0 ((((((w87.setCell ⟨gb278, 0, none⟩ (.string (⟨#[]⟩ : ByteArray))).setCell ⟨gb278, 1, none⟩ (.int .i64 0)).setCell ⟨gb278, 2, none⟩ (.int .i64 0)).setCell ⟨gb278, 3, none⟩ (.bool false)).setCell ⟨gb278, 4, none⟩ (.slice none 0 0)).heap[gb278]? = some (.cells #[.string (⟨#[]⟩ : ByteArray), .int .i64 0, .int .i64 0, .bool false, .slice none 0 0] 95 (0, 0))) := ⟨zp5 BK278⟩
  have n4_ : qA0 (Below w.heap.size w (((((w87.setCell ⟨gb278, 0, none⟩ (.string (⟨#[]⟩ : ByteArray))).setCell ⟨gb278, 1, none⟩ (.int .i64 0)).setCell ⟨gb278, 2, none⟩ (.int .i64 0)).setCell ⟨gb278, 3, none⟩ (.bool false)).setCell ⟨gb278, 4, none⟩ (.slice none 0 0))) := ⟨zb⟩
  (try clear HO_7)
  (try clear HO_12)
  (try clear BK269)
  (try clear BK278)
  (try clear HB)
  generalize (((((w87.setCell ⟨gb278, 0, none⟩ (.string (⟨#[]⟩ : ByteArray))).setCell ⟨gb278, 1, none⟩ (.int .i64 0)).setCell ⟨gb278, 2, none⟩ (.int .i64 0)).setCell ⟨gb278, 3, none⟩ (.bool false)).setCell ⟨gb278, 4, none⟩ (.slice none 0 0)) = w91 at n0_ n1_ n2_ n3_ n4_ ⊢
  have HO_7 := n0_
  have HO_12 := n1_
  have BK269 := n2_
  have BK278 := n3_
  have HB := n4_
  clear n0_ n1_ n2_ n3_ n4_
  replace HO_7 := qA0.mk (Kd.qEY HO_7.out)
  replace HO_12 := qA0.mk (Kd.qEY HO_12.out)
  replace BK269 := qA0.mk (qB2 BK269.out)
  replace BK278 := qA0.mk (qB2 BK278.out)
  replace HB := qA0.mk (qAF HB.out)
  refine qEA (n := 10) (S := fun w' => w'.cell? ⟨gb269, 0, none⟩ = some (.int .i64 ((qA3 l1 x29_1).f0)) ∧ w'.cell? ⟨gb269, 1, none⟩ = some (.slice A268_1 ((qA3 l1 x29_1).f1).length c268_1) ∧ w'.cell? ⟨gb269, 2, none⟩ = some (.int .i64 ((qA3 l1 x29_1).f2)) ∧ w'.cell? ⟨gb269, 3, none⟩ = some (.int .i64 ((qA3 l1 x29_1).f3)) ∧ w'.cell? ⟨gb269, 4, none⟩ = some (.string ((qA3 l1 x29_1).f4))) (ds := []) (bs 10 0) (by kernel_rfl) rfl rfl ⟨(qA1 BK269.out 0).trans rfl, (qA1 BK269.out 1).trans rfl, (qA1 BK269.out 2).trans rfl, (qA1 BK269.out 3).trans rfl, (qA1 BK269.out 4).trans rfl⟩ (fun hHeld => ?_); refine qCS qAJ.tab22 qAJ.bits22 (fun HT_ HW_ => ?_)
  generalize w91.drew = w92 at HO_7 HO_12 BK269 BK278 HB hHeld ⊢
  refine qBF (i := 0) (N := some 80) (bs 10 1) ?_
  refine qBF (i := 2) (N := some 82) (bs 10 5) ?_
  refine qDT (i := 3) (N := some 83) (bs 10 13) ?_
  refine one_ (i := 1) (N := some 81) (bs 10 15) rfl rfl (qCR HT_.out (by kernel_rfl)) (by decide) (fun K hK => ?_)
  refine qEO Tryz.func113 (by kernel_rfl) rfl #[.slice A0 l0.length c0] (by rfl) rfl rfl (by (try simp only [List.map_toArray, List.map_cons, List.map_nil]); first | done | rfl | (simp only [List.length_drop, List.length_take]; rfl)) ?_
  with_reducible refine (qAQ.calls k3 _ _ l0 t279 _ ?side1 ?side2 A43.out).mono ?_
  (case side1 => repeat (first | exact (Kd.qAE HR0.out HB.out) | refine sC ?_))
  (case side2 => exact HC0.out)
  rintro e w93 ⟨v280, rfl, ho0, hb⟩
  refine ⟨_, rfl, ?_⟩
  have HO281 := qA0.mk (Kd.qF6 (Kd.S_newB ho0 (g := gb278) (o := .cells #[.string (⟨#[]⟩ : ByteArray), .int .i64 0, .int .i64 0, .bool false, .slice none 0 0] 95 (0, 0)) (zk BK278)) (qAI zb))
  replace HO_7 := qA0.mk (Kd.qBN (by (with_reducible repeat refine sR ?_); exact HO_7.out) hb)
  replace HO_12 := qA0.mk (Kd.qBN (by (with_reducible repeat refine sR ?_); exact HO_12.out) hb)
  replace BK269 := zK BK269 hb
  replace BK278 := zK BK278 hb
  replace HB := zB hb
  (try clear hb)
  (try clear hb2)
  (try clear hk)
  (try clear hi)
  (try clear ho0)
  obtain ⟨Ao94, co94, eo94⟩ := Kd.qF5 HO281.out
  (first | subst eo94 | (injection eo94 with f1_ f2_ f3_; have f4_ := f1_.symm; have f5_ := f3_.symm; clear f1_ f2_ f3_; subst f4_; subst f5_))
  refine hK.out _ _ ⟨(qA1 BK269.out 0).trans rfl, (qA1 BK269.out 1).trans rfl, (qA1 BK269.out 2).trans rfl, (qA1 BK269.out 3).trans rfl, (qA1 BK269.out 4).trans rfl⟩ (fun hHeld => ?_)
  clear hK K
  refine qEB ?_
  refine one_ (i := 4) (N := some 84) (bs 10 31) rfl rfl (qCR HT_.out (by kernel_rfl)) (by decide) (fun K hK => ?_)
  refine qEO Tryz.func112 (by kernel_rfl) rfl #[.slice Ao94 t279.length co94, .string ((qA3 l1 x29_1).f4)] (by rfl) rfl rfl (by (try simp only [List.map_toArray, List.map_cons, List.map_nil]); first | done | rfl | (simp only [List.length_drop, List.length_take]; rfl)) ?_
  with_reducible refine (qBQ.calls k3 (fun k_ => ((((True ∧ k_ ≠ gb278) ∧ some k_ ≠ (v265 : Value).ownBlock) ∧ some k_ ≠ (u12 : Value).ownBlock) ∧ k_ ≠ gb269)) _ _ t279 ((qA3 l1 x29_1).f4) t282 t283 t284 t285 t286 false _ ?side1 A44.out).mono ?_
  (case side1 => exact Kd.S_V (Kd.qEJ (Kd.S_apart' (Kd.S_apart' (HO281.out) (Kd.qFE HO_7.out) (by decide)) (Kd.qFE HO_12.out) (by decide)) BK269.out (by decide)))
  rintro e w95 ⟨v287, rfl, ho0, hb⟩
  refine ⟨_, rfl, ?_⟩
  have HO288 := qA0.mk (Kd.V_lower (Kd.qFA (ok' := fun k_ => some k_ ≠ (v265 : Value).ownBlock ∧ some k_ ≠ (u12 : Value).ownBlock ∧ k_ ≠ gb269 ∧ k_ ≠ gb278) ho0 (fun k_ hk_ => ⟨Or.elim hk_ (fun hs_ => hs_.1.1.2) (fun hn_ => (Kd.fresh' (Kd.R_lt (by (with_reducible repeat refine sR ?_); exact HO_7.out)) k_ hn_)), Or.elim hk_ (fun hs_ => hs_.1.2) (fun hn_ => (Kd.fresh' (Kd.R_lt (by (with_reducible repeat refine sR ?_); exact HO_12.out)) k_ hn_)), Or.elim hk_ (fun hs_ => hs_.2) (fun hn_ => (Kd.freshB (g := gb269) (o := .cells #[.int .i64 ((qA3 l1 x29_1).f0), .slice A268_1 ((qA3 l1 x29_1).f1).length c268_1, .int .i64 ((qA3 l1 x29_1).f2), .int .i64 ((qA3 l1 x29_1).f3), .string ((qA3 l1 x29_1).f4)] 66 (0, 0)) (zk BK269) k_ hn_)), Or.elim hk_ (fun hs_ => hs_.1.1.1.2) (fun hn_ => (Kd.freshB (g := gb278) (o := .cells #[.string (⟨#[]⟩ : ByteArray), .int .i64 0, .int .i64 0, .bool false, .slice none 0 0] 95 (0, 0)) (zk BK278) k_ hn_))⟩)) (qAI zb))
  replace HO_7 := qA0.mk (Kd.qBN (by (with_reducible repeat refine sR ?_); exact HO_7.out) hb)
  replace HO_12 := qA0.mk (Kd.qBN (by (with_reducible repeat refine sR ?_); exact HO_12.out) hb)
  replace HO281 := qA0.mk (Kd.qDY (by (with_reducible repeat refine sS ?_); exact HO281.out) hb)
  replace BK269 := zK BK269 hb
  replace BK278 := zK BK278 hb
  replace HB := zB hb
  (try clear hb)
  (try clear hb2)
  (try clear hk)
  (try clear hi)
  (try clear ho0)
  obtain ⟨Ao100, co100, eo100⟩ := Kd.V_slice HO288.out
  (first | subst eo100 | (injection eo100 with f1_ f2_ f3_; have f4_ := f1_.symm; have f5_ := f3_.symm; clear f1_ f2_ f3_; subst f4_; subst f5_))
  refine hK.out _ _ ⟨(qA1 BK269.out 0).trans rfl, (qA1 BK269.out 1).trans rfl, (qA1 BK269.out 2).trans rfl, (qA1 BK269.out 3).trans rfl, (qA1 BK269.out 4).trans rfl⟩ (fun hHeld => ?_)
  clear hK K
  refine qEB ?_
  refine qBF (i := 5) (N := some 79) (bs 10 63) ?_
  refine qBF (i := 6) (N := some 85) (bs 10 127) ?_
  refine qBF (i := 7) (N := some 86) (bs 10 255) ?_
  refine one_ (i := 8) (N := none) (bs 10 511) rfl rfl (qCR HT_.out (by kernel_rfl)) (by decide) (fun K hK => ?_)
  have hs96 : w95.cell? ⟨gb278, 0, none⟩ = some (.string (⟨#[]⟩ : ByteArray)) := (qA1 BK278.out 0).trans rfl
  have hfs96 := qB1 BK278.out 0
  have hns96_0 := NB269_278.out
  have hms96_0 := NB278_269.out
  have hs97 : w95.cell? ⟨gb278, 1, none⟩ = some (.int .i64 0) := (qA1 BK278.out 1).trans rfl
  have hfs97 := qB1 BK278.out 1
  have hns97_0 := NB269_278.out
  have hms97_0 := NB278_269.out
  have hs98 : w95.cell? ⟨gb278, 2, none⟩ = some (.int .i64 0) := (qA1 BK278.out 2).trans rfl
  have hfs98 := qB1 BK278.out 2
  have hns98_0 := NB269_278.out
  have hms98_0 := NB278_269.out
  have hs99 : w95.cell? ⟨gb278, 3, none⟩ = some (.bool false) := (qA1 BK278.out 3).trans rfl
  have hfs99 := qB1 BK278.out 3
  have hns99_0 := NB269_278.out
  have hms99_0 := NB278_269.out
  have hs101 : w95.cell? ⟨gb278, 4, none⟩ = some (.slice none 0 0) := (qA1 BK278.out 4).trans rfl
  have hfs101 := qB1 BK278.out 4
  have hns101_0 := NB269_278.out
  have hms101_0 := NB278_269.out
  refine skip_ (w1 := ?_) (by rfl) rfl ?_ ?_
  rotate_left
  ·go_simp
   rfl
  refine hK.out _ _ ⟨((cell_far (p := ⟨gb278, _, none⟩) NB269_278.out _).trans (((cell_far (p := ⟨gb278, _, none⟩) NB269_278.out _).trans (((cell_far (p := ⟨gb278, _, none⟩) NB269_278.out _).trans (((cell_far (p := ⟨gb278, _, none⟩) NB269_278.out _).trans (((cell_far (p := ⟨gb278, _, none⟩) NB269_278.out _).trans (hHeld.1)))))))))), ((cell_far (p := ⟨gb278, _, none⟩) NB269_278.out _).trans (((cell_far (p := ⟨gb278, _, none⟩) NB269_278.out _).trans (((cell_far (p := ⟨gb278, _, none⟩) NB269_278.out _).trans (((cell_far (p := ⟨gb278, _, none⟩) NB269_278.out _).trans (((cell_far (p := ⟨gb278, _, none⟩) NB269_278.out _).trans (hHeld.2.1)))))))))), ((cell_far (p := ⟨gb278, _, none⟩) NB269_278.out _).trans (((cell_far (p := ⟨gb278, _, none⟩) NB269_278.out _).trans (((cell_far (p := ⟨gb278, _, none⟩) NB269_278.out _).trans (((cell_far (p := ⟨gb278, _, none⟩) NB269_278.out _).trans (((cell_far (p := ⟨gb278, _, none⟩) NB269_278.out _).trans (hHeld.2.2.1)))))))))), ((cell_far (p := ⟨gb278, _, none⟩) NB269_278.out _).trans (((cell_far (p := ⟨gb278, _, none⟩) NB269_278.out _).trans (((cell_far (p := ⟨gb278, _, none⟩) NB269_278.out _).trans (((cell_far (p := ⟨gb278, _, none⟩) NB269_278.out _).trans (((cell_far (p := ⟨gb278, _, none⟩) NB269_278.out _).trans (hHeld.2.2.2.1)))))))))), ((cell_far (p := ⟨gb278, _, none⟩) NB269_278.out _).trans (((cell_far (p := ⟨gb278, _, none⟩) NB269_278.out _).trans (((cell_far (p := ⟨gb278, _, none⟩) NB269_278.out _).trans (((cell_far (p := ⟨gb278, _, none⟩) NB269_278.out _).trans (((cell_far (p := ⟨gb278, _, none⟩) NB269_278.out _).trans (hHeld.2.2.2.2))))))))))⟩ (fun hHeld => ?_)
  clear hK K
  refine qBF (i := 9) (N := some 16) (bs 10 1023) ?_
  refine qF9 (qDX HT_.out (by kernel_rfl)) ?_
  try go_wp2
  go_ret2
  exact ⟨zf, zb⟩
 subst c45
 rw [if_pos rfl] at H
 have HC46 := qA0.mk H
 clear H
 try go_wp2_with (((with_reducible refine qA9 (N := 15) rfl ?_); refine boxZ 15 #[.string (⟨#[]⟩ : ByteArray), .int .i64 0, .int .i64 0, .bool false, .slice none 0 0] 95 ?_; intro gb278 hg w47 hbox hb; have BK278 := qA0.mk (hbox); have GW278 := zg w gb278; have GE278 := zg w gb278; have NB269_278 := zl BK269 gb278; have NB278_269 := zu BK269 gb278; replace HO_7 := qA0.mk (Kd.qBN (by (with_reducible repeat refine sR ?_); exact HO_7.out) hb); replace HO_12 := qA0.mk (Kd.qBN (by (with_reducible repeat refine sR ?_); exact HO_12.out) hb); replace BK269 := zK BK269 hb; replace HB := zB hb; clear hb hbox hg; have hnb48 := NB278_269.out; have hnc48 := NB269_278.out; obtain ⟨hcz49_0, hcz49_1, hcz49_2, hcz49_3, hcz49_4, hfz49_0, hfz49_1, hfz49_2, hfz49_3, hfz49_4⟩ := bc5 BK278.out; obtain ⟨hcz50_0, hcz50_1, hcz50_2, hcz50_3, hcz50_4, hfz50_0, hfz50_1, hfz50_2, hfz50_3, hfz50_4⟩ := bc5 BK269.out))
 have n0_ : qA0 (Kd.R (Kd.int .i64) 3 (((((w47.setCell ⟨gb278, 0, none⟩ (.string (⟨#[]⟩ : ByteArray))).setCell ⟨gb278, 1, none⟩ (.int .i64 0)).setCell ⟨gb278, 2, none⟩ (.int .i64 0)).setCell ⟨gb278, 3, none⟩ (.bool false)).setCell ⟨gb278, 4, none⟩ (.slice none 0 0)) w.heap.size (fun k_ => some k_ ≠ (u12 : Value).ownBlock) v265 x7_1) := ⟨by (with_reducible repeat refine sR ?_); exact Kd.qB7 (Kd.qAW (Kd.qAW (Kd.qAW (Kd.qAW (Kd.qAW (Kd.qBG HO_7.out BK278.out (by decide)) (fun _ hk => hk.2) _) (fun _ hk => hk.2) _) (fun _ hk => hk.2) _) (fun _ hk => hk.2) _) (fun _ hk => hk.2) _) (fun _ hk => hk.1)⟩
 have n1_ : qA0 (Kd.R (Kd.int .i64) 3 (((((w47.setCell ⟨gb278, 0, none⟩ (.string (⟨#[]⟩ : ByteArray))).setCell ⟨gb278, 1, none⟩ (.int .i64 0)).setCell ⟨gb278, 2, none⟩ (.int .i64 0)).setCell ⟨gb278, 3, none⟩ (.bool false)).setCell ⟨gb278, 4, none⟩ (.slice none 0 0)) w.heap.size (fun k_ => some k_ ≠ (v265 : Value).ownBlock) u12 x12_3) := ⟨by (with_reducible repeat refine sR ?_); exact Kd.qB7 (Kd.qAW (Kd.qAW (Kd.qAW (Kd.qAW (Kd.qAW (Kd.qBG HO_12.out BK278.out (by decide)) (fun _ hk => hk.2) _) (fun _ hk => hk.2) _) (fun _ hk => hk.2) _) (fun _ hk => hk.2) _) (fun _ hk => hk.2) _) (fun _ hk => hk.1)⟩
 have n2_ : qA0 ((((((w47.setCell ⟨gb278, 0, none⟩ (.string (⟨#[]⟩ : ByteArray))).setCell ⟨gb278, 1, none⟩ (.int .i64 0)).setCell ⟨gb278, 2, none⟩ (.int .i64 0)).setCell ⟨gb278, 3, none⟩ (.bool false)).setCell ⟨gb278, 4, none⟩ (.slice none 0 0)).heap[gb269]? = some (.cells #[.int .i64 ((qA3 l1 x29_1).f0), .slice A268_1 ((qA3 l1 x29_1).f1).length c268_1, .int .i64 ((qA3 l1 x29_1).f2), .int .i64 ((qA3 l1 x29_1).f3), .string ((qA3 l1 x29_1).f4)] 66 (0, 0))) := ⟨by refine zf5 ?_ NB269_278; (with_reducible repeat refine st ?_); exact BK269.out⟩
 have n3_ : qA0 ((((((w47.setCell ⟨gb278, 0, none⟩ (.string (⟨#[]⟩ : ByteArray))).setCell ⟨gb278, 1, none⟩ (.int .i64 0)).setCell ⟨gb278, 2, none⟩ (.int .i64 0)).setCell ⟨gb278, 3, none⟩ (.bool false)).setCell ⟨gb278, 4, none⟩ (.slice none 0 0)).heap[gb278]? = some (.cells #[.string (⟨#[]⟩ : ByteArray), .int .i64 0, .int .i64 0, .bool false, .slice none 0 0] 95 (0, 0))) := ⟨zp5 BK278⟩
 have n4_ : qA0 (Below w.heap.size w (((((w47.setCell ⟨gb278, 0, none⟩ (.string (⟨#[]⟩ : ByteArray))).setCell ⟨gb278, 1, none⟩ (.int .i64 0)).setCell ⟨gb278, 2, none⟩ (.int .i64 0)).setCell ⟨gb278, 3, none⟩ (.bool false)).setCell ⟨gb278, 4, none⟩ (.slice none 0 0))) := ⟨zb⟩
 (try clear HO_7)
 (try clear HO_12)
 (try clear BK269)
 (try clear BK278)
 (try clear HB)
 generalize (((((w47.setCell ⟨gb278, 0, none⟩ (.string (⟨#[]⟩ : ByteArray))).setCell ⟨gb278, 1, none⟩ (.int .i64 0)).setCell ⟨gb278, 2, none⟩ (.int .i64 0)).setCell ⟨gb278, 3, none⟩ (.bool false)).setCell ⟨gb278, 4, none⟩ (.slice none 0 0)) = w51 at n0_ n1_ n2_ n3_ n4_ ⊢
 have HO_7 := n0_
 have HO_12 := n1_
 have BK269 := n2_
 have BK278 := n3_
 have HB := n4_
 clear n0_ n1_ n2_ n3_ n4_
 replace HO_7 := qA0.mk (Kd.qEY HO_7.out)
 replace HO_12 := qA0.mk (Kd.qEY HO_12.out)
 replace BK269 := qA0.mk (qB2 BK269.out)
 replace BK278 := qA0.mk (qB2 BK278.out)
 replace HB := qA0.mk (qAF HB.out)
 refine qEA (n := 10) (S := fun w' => w'.cell? ⟨gb269, 0, none⟩ = some (.int .i64 ((qA3 l1 x29_1).f0)) ∧ w'.cell? ⟨gb269, 1, none⟩ = some (.slice A268_1 ((qA3 l1 x29_1).f1).length c268_1) ∧ w'.cell? ⟨gb269, 2, none⟩ = some (.int .i64 ((qA3 l1 x29_1).f2)) ∧ w'.cell? ⟨gb269, 3, none⟩ = some (.int .i64 ((qA3 l1 x29_1).f3)) ∧ w'.cell? ⟨gb269, 4, none⟩ = some (.string ((qA3 l1 x29_1).f4))) (ds := []) (bs 10 0) (by kernel_rfl) rfl rfl ⟨(qA1 BK269.out 0).trans rfl, (qA1 BK269.out 1).trans rfl, (qA1 BK269.out 2).trans rfl, (qA1 BK269.out 3).trans rfl, (qA1 BK269.out 4).trans rfl⟩ (fun hHeld => ?_); refine qCS qAJ.tab22 qAJ.bits22 (fun HT_ HW_ => ?_)
 generalize w51.drew = w52 at HO_7 HO_12 BK269 BK278 HB hHeld ⊢
 refine qBF (i := 0) (N := some 80) (bs 10 1) ?_
 refine qBF (i := 2) (N := some 82) (bs 10 5) ?_
 refine qDT (i := 3) (N := some 83) (bs 10 13) ?_
 refine one_ (i := 1) (N := some 81) (bs 10 15) rfl rfl (qCR HT_.out (by kernel_rfl)) (by decide) (fun K hK => ?_)
 refine qEO Tryz.func113 (by kernel_rfl) rfl #[.slice A0 l0.length c0] (by rfl) rfl rfl (by (try simp only [List.map_toArray, List.map_cons, List.map_nil]); first | done | rfl | (simp only [List.length_drop, List.length_take]; rfl)) ?_
 with_reducible refine (qAQ.calls k3 _ _ l0 t279 _ ?side1 ?side2 A43.out).mono ?_
 (case side1 => repeat (first | exact (Kd.qAE HR0.out HB.out) | refine sC ?_))
 (case side2 => exact HC0.out)
 rintro e w53 ⟨v280, rfl, ho0, hb⟩
 refine ⟨_, rfl, ?_⟩
 have HO281 := qA0.mk (Kd.qF6 (Kd.S_newB ho0 (g := gb278) (o := .cells #[.string (⟨#[]⟩ : ByteArray), .int .i64 0, .int .i64 0, .bool false, .slice none 0 0] 95 (0, 0)) (zk BK278)) (qAI zb))
 replace HO_7 := qA0.mk (Kd.qBN (by (with_reducible repeat refine sR ?_); exact HO_7.out) hb)
 replace HO_12 := qA0.mk (Kd.qBN (by (with_reducible repeat refine sR ?_); exact HO_12.out) hb)
 replace BK269 := zK BK269 hb
 replace BK278 := zK BK278 hb
 replace HB := zB hb
 (try clear hb)
 (try clear hb2)
 (try clear hk)
 (try clear hi)
 (try clear ho0)
 obtain ⟨Ao54, co54, eo54⟩ := Kd.qF5 HO281.out
 (first | subst eo54 | (injection eo54 with f1_ f2_ f3_; have f4_ := f1_.symm; have f5_ := f3_.symm; clear f1_ f2_ f3_; subst f4_; subst f5_))
 refine hK.out _ _ ⟨(qA1 BK269.out 0).trans rfl, (qA1 BK269.out 1).trans rfl, (qA1 BK269.out 2).trans rfl, (qA1 BK269.out 3).trans rfl, (qA1 BK269.out 4).trans rfl⟩ (fun hHeld => ?_)
 clear hK K
 refine qEB ?_
 refine one_ (i := 4) (N := some 84) (bs 10 31) rfl rfl (qCR HT_.out (by kernel_rfl)) (by decide) (fun K hK => ?_)
 refine qEO Tryz.func112 (by kernel_rfl) rfl #[.slice Ao54 t279.length co54, .string ((qA3 l1 x29_1).f4)] (by rfl) rfl rfl (by (try simp only [List.map_toArray, List.map_cons, List.map_nil]); first | done | rfl | (simp only [List.length_drop, List.length_take]; rfl)) ?_
 with_reducible refine (qBQ.calls k3 (fun k_ => ((((True ∧ k_ ≠ gb278) ∧ some k_ ≠ (v265 : Value).ownBlock) ∧ some k_ ≠ (u12 : Value).ownBlock) ∧ k_ ≠ gb269)) _ _ t279 ((qA3 l1 x29_1).f4) t282 t283 t284 t285 t286 true _ ?side1 A44.out).mono ?_
 (case side1 => exact Kd.S_V (Kd.qEJ (Kd.S_apart' (Kd.S_apart' (HO281.out) (Kd.qFE HO_7.out) (by decide)) (Kd.qFE HO_12.out) (by decide)) BK269.out (by decide)))
 rintro e w55 ⟨v287, rfl, ho0, hb⟩
 refine ⟨_, rfl, ?_⟩
 have HO288 := qA0.mk (Kd.V_lower (Kd.qFA (ok' := fun k_ => some k_ ≠ (v265 : Value).ownBlock ∧ some k_ ≠ (u12 : Value).ownBlock ∧ k_ ≠ gb269 ∧ k_ ≠ gb278) ho0 (fun k_ hk_ => ⟨Or.elim hk_ (fun hs_ => hs_.1.1.2) (fun hn_ => (Kd.fresh' (Kd.R_lt (by (with_reducible repeat refine sR ?_); exact HO_7.out)) k_ hn_)), Or.elim hk_ (fun hs_ => hs_.1.2) (fun hn_ => (Kd.fresh' (Kd.R_lt (by (with_reducible repeat refine sR ?_); exact HO_12.out)) k_ hn_)), Or.elim hk_ (fun hs_ => hs_.2) (fun hn_ => (Kd.freshB (g := gb269) (o := .cells #[.int .i64 ((qA3 l1 x29_1).f0), .slice A268_1 ((qA3 l1 x29_1).f1).length c268_1, .int .i64 ((qA3 l1 x29_1).f2), .int .i64 ((qA3 l1 x29_1).f3), .string ((qA3 l1 x29_1).f4)] 66 (0, 0)) (zk BK269) k_ hn_)), Or.elim hk_ (fun hs_ => hs_.1.1.1.2) (fun hn_ => (Kd.freshB (g := gb278) (o := .cells #[.string (⟨#[]⟩ : ByteArray), .int .i64 0, .int .i64 0, .bool false, .slice none 0 0] 95 (0, 0)) (zk BK278) k_ hn_))⟩)) (qAI zb))
 replace HO_7 := qA0.mk (Kd.qBN (by (with_reducible repeat refine sR ?_); exact HO_7.out) hb)
 replace HO_12 := qA0.mk (Kd.qBN (by (with_reducible repeat refine sR ?_); exact HO_12.out) hb)
 replace HO281 := qA0.mk (Kd.qDY (by (with_reducible repeat refine sS ?_); exact HO281.out) hb)
 replace BK269 := zK BK269 hb
 replace BK278 := zK BK278 hb
 replace HB := zB hb
 (try clear hb)
 (try clear hb2)
 (try clear hk)
 (try clear hi)
 (try clear ho0)
 obtain ⟨Ao60, co60, eo60⟩ := Kd.V_slice HO288.out
 (first | subst eo60 | (injection eo60 with f1_ f2_ f3_; have f4_ := f1_.symm; have f5_ := f3_.symm; clear f1_ f2_ f3_; subst f4_; subst f5_))
 refine hK.out _ _ ⟨(qA1 BK269.out 0).trans rfl, (qA1 BK269.out 1).trans rfl, (qA1 BK269.out 2).trans rfl, (qA1 BK269.out 3).trans rfl, (qA1 BK269.out 4).trans rfl⟩ (fun hHeld => ?_)
 clear hK K
 refine qEB ?_
 refine qBF (i := 5) (N := some 79) (bs 10 63) ?_
 refine qBF (i := 6) (N := some 85) (bs 10 127) ?_
 refine qBF (i := 7) (N := some 86) (bs 10 255) ?_
 refine one_ (i := 8) (N := none) (bs 10 511) rfl rfl (qCR HT_.out (by kernel_rfl)) (by decide) (fun K hK => ?_)
 have hs56 : w55.cell? ⟨gb278, 0, none⟩ = some (.string (⟨#[]⟩ : ByteArray)) := (qA1 BK278.out 0).trans rfl
 have hfs56 := qB1 BK278.out 0
 have hns56_0 := NB269_278.out
 have hms56_0 := NB278_269.out
 have hs57 : w55.cell? ⟨gb278, 1, none⟩ = some (.int .i64 0) := (qA1 BK278.out 1).trans rfl
 have hfs57 := qB1 BK278.out 1
 have hns57_0 := NB269_278.out
 have hms57_0 := NB278_269.out
 have hs58 : w55.cell? ⟨gb278, 2, none⟩ = some (.int .i64 0) := (qA1 BK278.out 2).trans rfl
 have hfs58 := qB1 BK278.out 2
 have hns58_0 := NB269_278.out
 have hms58_0 := NB278_269.out
 have hs59 : w55.cell? ⟨gb278, 3, none⟩ = some (.bool false) := (qA1 BK278.out 3).trans rfl
 have hfs59 := qB1 BK278.out 3
 have hns59_0 := NB269_278.out
 have hms59_0 := NB278_269.out
 have hs61 : w55.cell? ⟨gb278, 4, none⟩ = some (.slice none 0 0) := (qA1 BK278.out 4).trans rfl
 have hfs61 := qB1 BK278.out 4
 have hns61_0 := NB269_278.out
 have hms61_0 := NB278_269.out
 refine skip_ (w1 := ?_) (by rfl) rfl ?_ ?_
 rotate_left
 ·go_simp
  rfl
 refine hK.out _ _ ⟨((cell_far (p := ⟨gb278, _, none⟩) NB269_278.out _).trans (((cell_far (p := ⟨gb278, _, none⟩) NB269_278.out _).trans (((cell_far (p := ⟨gb278, _, none⟩) NB269_278.out _).trans (((cell_far (p := ⟨gb278, _, none⟩) NB269_278.out _).trans (((cell_far (p := ⟨gb278, _, none⟩) NB269_278.out _).trans (hHeld.1)))))))))), ((cell_far (p := ⟨gb278, _, none⟩) NB269_278.out _).trans (((cell_far (p := ⟨gb278, _, none⟩) NB269_278.out _).trans (((cell_far (p := ⟨gb278, _, none⟩) NB269_278.out _).trans (((cell_far (p := ⟨gb278, _, none⟩) NB269_278.out _).trans (((cell_far (p := ⟨gb278, _, none⟩) NB269_278.out _).trans (hHeld.2.1)))))))))), ((cell_far (p := ⟨gb278, _, none⟩) NB269_278.out _).trans (((cell_far (p := ⟨gb278, _, none⟩) NB269_278.out _).trans (((cell_far (p := ⟨gb278, _, none⟩) NB269_278.out _).trans (((cell_far (p := ⟨gb278, _, none⟩) NB269_278.out _).trans (((cell_far (p := ⟨gb278, _, none⟩) NB269_278.out _).trans (hHeld.2.2.1)))))))))), ((cell_far (p := ⟨gb278, _, none⟩) NB269_278.out _).trans (((cell_far (p := ⟨gb278, _, none⟩) NB269_278.out _).trans (((cell_far (p := ⟨gb278, _, none⟩) NB269_278.out _).trans (((cell_far (p := ⟨gb278, _, none⟩) NB269_278.out _).trans (((cell_far (p := ⟨gb278, _, none⟩) NB269_278.out _).trans (hHeld.2.2.2.1)))))))))), ((cell_far (p := ⟨gb278, _, none⟩) NB269_278.out _).trans (((cell_far (p := ⟨gb278, _, none⟩) NB269_278.out _).trans (((cell_far (p := ⟨gb278, _, none⟩) NB269_278.out _).trans (((cell_far (p := ⟨gb278, _, none⟩) NB269_278.out _).trans (((cell_far (p := ⟨gb278, _, none⟩) NB269_278.out _).trans (hHeld.2.2.2.2))))))))))⟩ (fun hHeld => ?_)
 clear hK K
 refine qBF (i := 9) (N := some 16) (bs 10 1023) ?_
 refine qF9 (qDX HT_.out (by kernel_rfl)) ?_
 go_upto_region 25 with (fail)
 go_cut [98] (fun v98 wc => ∃ (kq : Nat) (x98_45 : Bool), v98 = .bool x98_45 ∧ qA0 (qAJ.j3 kq l0 l1 x7_1 x29_1 x12_3 l1 (l1.length : Int) x29_1 x98_45 ((qA3 l1 x29_1).f0) ((qA3 l1 x29_1).f1) ((qA3 l1 x29_1).f2) ((qA3 l1 x29_1).f3) ((qA3 l1 x29_1).f4) t282 t283 t284 t285 t286 = some (r1, r2)) ∧ qA0 (kq ≤ k3) ∧ qA0 (Kd.R (Kd.int .i64) 3 wc w.heap.size (fun k_ => some k_ ≠ (u12 : Value).ownBlock) v265 x7_1) ∧ qA0 (Kd.R (Kd.int .i64) 3 wc w.heap.size (fun k_ => some k_ ≠ (v265 : Value).ownBlock) u12 x12_3) ∧ qA0 (Kd.V k134 134 wc w.heap.size (fun k_ => some k_ ≠ (v265 : Value).ownBlock ∧ some k_ ≠ (u12 : Value).ownBlock ∧ k_ ≠ gb269 ∧ k_ ≠ gb278) (.slice Ao60 t286.length co60) t286) ∧ qA0 (wc.heap[gb269]? = some (.cells #[.int .i64 ((qA3 l1 x29_1).f0), (.slice A268_1 ((qA3 l1 x29_1).f1).length c268_1), .int .i64 ((qA3 l1 x29_1).f2), .int .i64 ((qA3 l1 x29_1).f3), .string ((qA3 l1 x29_1).f4)] 66 (0, 0))) ∧ qA0 (wc.heap[gb278]? = some (.cells #[.string t282, .int .i64 t283, .int .i64 t284, .bool t285, (.slice Ao60 t286.length co60)] 95 (0, 0))) ∧ qA0 (Below w.heap.size w wc))
 case first =>
  have H := HC46.out
  clear HC46
  replace H := zi H
  obtain ⟨t290, A620, H⟩ := H
  have A62 := qA0.mk A620
  clear A620
  by_cases c63 : t290 = true
  rotate_left
  ·replace c63 := Bool.eq_false_iff.mpr c63
   subst c63
   rw [zj] at H
   have H' := qA0.mk H
   clear H
   have hnb67 := NB278_269.out
   have hnc67 := NB269_278.out
   obtain ⟨hcz68_0, hcz68_1, hcz68_2, hcz68_3, hcz68_4, hfz68_0, hfz68_1, hfz68_2, hfz68_3, hfz68_4⟩ := bc5 BK278.out
   go_wp2_with (((with_reducible refine qA6 (f := 114) rfl ?_); refine qBP (some 91) Tryz.func114 #[.int .i64 t283] ?_; (with_reducible refine (qCF.calls t283 false _ A62.out).mono ?_); rintro e w' ⟨rfl, ⟨nd, rfl⟩⟩; refine ⟨_, rfl, ?_⟩))
   go_meet
   case rel => exact ⟨_, (true), zs, H', ⟨by have := HK1.out; have := HJ12.out; have := HK3.out; first | omega | exact Nat.le_refl _⟩, ⟨by (with_reducible repeat refine sR ?_); exact Kd.qB7 (Kd.qAW (Kd.qAW (Kd.qAW (Kd.qAW (Kd.qAW (Kd.qBG HO_7.out BK278.out (by decide)) (fun _ hk => hk.2) _) (fun _ hk => hk.2) _) (fun _ hk => hk.2) _) (fun _ hk => hk.2) _) (fun _ hk => hk.2) _) (fun _ hk => hk.1)⟩, ⟨by (with_reducible repeat refine sR ?_); exact Kd.qB7 (Kd.qAW (Kd.qAW (Kd.qAW (Kd.qAW (Kd.qAW (Kd.qBG HO_12.out BK278.out (by decide)) (fun _ hk => hk.2) _) (fun _ hk => hk.2) _) (fun _ hk => hk.2) _) (fun _ hk => hk.2) _) (fun _ hk => hk.2) _) (fun _ hk => hk.1)⟩, ⟨by (with_reducible repeat (first | apply Kd.V_alloc | apply Kd.qEI | apply Kd.V_drew)); exact Kd.qFA (Kd.qEP (Kd.qEP (Kd.qEP (Kd.qEP (Kd.qEP (Kd.qFA HO288.out (fun k_ hk => (⟨hk, hk.2.2.2⟩ : _ ∧ k_ ≠ gb278))) (fun _ hk => hk.2) _) (fun _ hk => hk.2) _) (fun _ hk => hk.2) _) (fun _ hk => hk.2) _) (fun _ hk => hk.2) _) (fun _ hk => ⟨hk.1.1, ⟨hk.1.2.1, ⟨hk.1.2.2.1, hk.1.2.2.2⟩⟩⟩)⟩, ⟨by refine zf5 ?_ NB269_278; (with_reducible repeat refine st ?_); exact BK269.out⟩, ⟨zp5 BK278⟩, ⟨zb⟩⟩
  subst c63
  rw [if_pos rfl] at H
  replace H := zi H
  obtain ⟨t291, A640, H⟩ := H
  have A64 := qA0.mk A640
  clear A640
  have H' := qA0.mk H
  clear H
  have hnb65 := NB278_269.out
  have hnc65 := NB269_278.out
  obtain ⟨hcz66_0, hcz66_1, hcz66_2, hcz66_3, hcz66_4, hfz66_0, hfz66_1, hfz66_2, hfz66_3, hfz66_4⟩ := bc5 BK278.out
  go_wp2_with (first | ((with_reducible refine qA6 (f := 114) rfl ?_); refine qBP (some 91) Tryz.func114 #[.int .i64 t283] ?_; (with_reducible refine (qCF.calls t283 true _ A62.out).mono ?_); rintro e w' ⟨rfl, ⟨nd, rfl⟩⟩; refine ⟨_, rfl, ?_⟩) | (go_at_call 114; (with_reducible refine (qCF.calls t284 t291 _ A64.out).mono ?_); rintro e w' ⟨rfl, ⟨nd, rfl⟩⟩))
  go_meet
  case rel => exact ⟨_, (!t291), zs, H', ⟨by have := HK1.out; have := HJ12.out; have := HK3.out; first | omega | exact Nat.le_refl _⟩, ⟨by (with_reducible repeat refine sR ?_); exact Kd.qB7 (Kd.qAW (Kd.qAW (Kd.qAW (Kd.qAW (Kd.qAW (Kd.qBG HO_7.out BK278.out (by decide)) (fun _ hk => hk.2) _) (fun _ hk => hk.2) _) (fun _ hk => hk.2) _) (fun _ hk => hk.2) _) (fun _ hk => hk.2) _) (fun _ hk => hk.1)⟩, ⟨by (with_reducible repeat refine sR ?_); exact Kd.qB7 (Kd.qAW (Kd.qAW (Kd.qAW (Kd.qAW (Kd.qAW (Kd.qBG HO_12.out BK278.out (by decide)) (fun _ hk => hk.2) _) (fun _ hk => hk.2) _) (fun _ hk => hk.2) _) (fun _ hk => hk.2) _) (fun _ hk => hk.2) _) (fun _ hk => hk.1)⟩, ⟨by (with_reducible repeat (first | apply Kd.V_alloc | apply Kd.qEI | apply Kd.V_drew)); exact Kd.qFA (Kd.qEP (Kd.qEP (Kd.qEP (Kd.qEP (Kd.qEP (Kd.qFA HO288.out (fun k_ hk => (⟨hk, hk.2.2.2⟩ : _ ∧ k_ ≠ gb278))) (fun _ hk => hk.2) _) (fun _ hk => hk.2) _) (fun _ hk => hk.2) _) (fun _ hk => hk.2) _) (fun _ hk => hk.2) _) (fun _ hk => ⟨hk.1.1, ⟨hk.1.2.1, ⟨hk.1.2.2.1, hk.1.2.2.2⟩⟩⟩)⟩, ⟨by refine zf5 ?_ NB269_278; (with_reducible repeat refine st ?_); exact BK269.out⟩, ⟨zp5 BK278⟩, ⟨zb⟩⟩
 clear HC46 c34b0 c42b0 c42b1 hcz49_0 hcz49_1 hcz49_2 hcz49_3 hcz49_4 hcz50_0 hcz50_1 hcz50_2 hcz50_3 hcz50_4 hfz49_0 hfz49_1 hfz49_2 hfz49_3 hfz49_4 hfz50_0 hfz50_1 hfz50_2 hfz50_3 hfz50_4
 obtain ⟨kq, x98_45, rfl, HA, HJ45, HO_7, HO_12, HO_279004, BK269, BK278, HB⟩ := hcut
 obtain _ | kj45 := kq
 ·exact absurd HA.out (by simp [qAJ.j3])
 have H := HA.out
 clear HA
 simp only [qAJ.j3] at H
 by_cases c69 : x98_45 = true
 ·subst c69
  rw [if_pos rfl] at H
  simp only [Option.some.injEq, Prod.mk.injEq] at H
  obtain ⟨rfl, rfl⟩ := H
  go_wp2
  go_ret2
  exact ⟨zf, zb⟩
 replace c69 := Bool.eq_false_iff.mpr c69
 subst c69
 rw [zj] at H
 replace H := zi H
 obtain ⟨⟨t292, t293⟩, A700, H⟩ := H
 dsimp only at H
 have A70 := qA0.mk A700
 clear A700
 by_cases c71 : t293 = true
 rotate_left
 ·replace c71 := Bool.eq_false_iff.mpr c71
  subst c71
  rw [zj] at H
  simp only [Option.some.injEq, Prod.mk.injEq] at H
  obtain ⟨rfl, rfl⟩ := H
  have hnb82 := NB269_278.out
  have hnc82 := NB278_269.out
  obtain ⟨hcz83_0, hcz83_1, hcz83_2, hcz83_3, hcz83_4, hfz83_0, hfz83_1, hfz83_2, hfz83_3, hfz83_4⟩ := bc5 BK269.out
  obtain ⟨hcz84_0, hcz84_1, hcz84_2, hcz84_3, hcz84_4, hfz84_0, hfz84_1, hfz84_2, hfz84_3, hfz84_4⟩ := bc5 BK278.out
  obtain ⟨Ao85, co85, eo85⟩ := Kd.qBV HO_12.out
  subst eo85
  go_wp2_with (((with_reducible refine qA6 (f := 115) rfl ?_); refine qBP (some 103) Tryz.func115 #[.agg #[.int .i64 ((qA3 l1 x29_1).f0), .slice A268_1 ((qA3 l1 x29_1).f1).length c268_1, .int .i64 ((qA3 l1 x29_1).f2), .int .i64 ((qA3 l1 x29_1).f3), .string ((qA3 l1 x29_1).f4)], .slice Ao85 x12_3.length co85, .agg #[.string t282, .int .i64 t283, .int .i64 t284, .bool t285, .slice Ao60 t286.length co60]] ?_; (with_reducible refine (qA5.calls kj45 ((qA3 l1 x29_1).f0) _ _ ((qA3 l1 x29_1).f1) ((qA3 l1 x29_1).f2) ((qA3 l1 x29_1).f3) ((qA3 l1 x29_1).f4) _ _ x12_3 t282 t283 t284 t285 _ _ t286 t292 false _ ?side1 ?side2 ?side3 ?side4 ?side5 ?side6 A70.out).mono ?_); (case side1 => repeat (first | exact (Kd.qAE HR268_1.out HB.out) | refine sC ?_)); (case side2 => exact HC268_1.out); (case side3 => repeat (first | exact (Kd.qB3 HO_12.out).2.2 | refine sC ?_)); (case side4 => exact (Kd.qB3 HO_12.out).2.1); (case side5 => repeat (first | exact (Kd.qF1 HO_279004.out).2.2 | refine sC ?_)); (case side6 => exact (Kd.qF1 HO_279004.out).2.1); rintro e w86 ⟨rfl, hb⟩; refine ⟨_, rfl, ?_⟩; replace HO_7 := qA0.mk (Kd.qBN (by (with_reducible repeat refine sR ?_); exact HO_7.out) hb); replace HO_12 := qA0.mk (Kd.qBN (by (with_reducible repeat refine sR ?_); exact HO_12.out) hb); replace HO_279004 := qA0.mk (Kd.V_below (by (with_reducible repeat (first | apply Kd.V_alloc | apply Kd.qEI | apply Kd.V_drew)); exact HO_279004.out) hb); replace BK269 := zK BK269 hb; replace BK278 := zK BK278 hb; replace HB := zB hb; (try clear hb hk); (try clear hb)))
  go_ret2
  exact ⟨zf, zb⟩
 subst c71
 rw [if_pos rfl] at H
 by_cases c72 : 0 ≤ x29_1
 rotate_left
 ·rw [if_neg c72] at H
  cases H
 rw [if_pos c72] at H
 have c72b0 := decide_eq_true c72
 clear c72
 by_cases c73 : x29_1 < (x7_1.length : Int)
 rotate_left
 ·rw [if_neg c73] at H
  cases H
 rw [if_pos c73] at H
 have c73b0 := decide_eq_true c73
 clear c73
 obtain ⟨y294, hy_⟩ : ∃ y_ : List Int, y_ = (x7_1.set (x29_1 : Int).toNat t292) := ⟨_, rfl⟩
 replace H : (qAJ.l0 kj45 l0 l1 y294 l1 (l1.length : Int) (wrap64 (x29_1 + 1))) = some (r1, r2) := zr
 have Ny294 := qA0.mk hy_
 clear hy_
 have H' := qA0.mk H
 clear H
 have hnb75 := NB269_278.out
 have hnc75 := NB278_269.out
 obtain ⟨hcz76_0, hcz76_1, hcz76_2, hcz76_3, hcz76_4, hfz76_0, hfz76_1, hfz76_2, hfz76_3, hfz76_4⟩ := bc5 BK269.out
 obtain ⟨hcz77_0, hcz77_1, hcz77_2, hcz77_3, hcz77_4, hfz77_0, hfz77_1, hfz77_2, hfz77_3, hfz77_4⟩ := bc5 BK278.out
 obtain ⟨Ao78, co78, eo78⟩ := Kd.qBV HO_12.out
 subst eo78
 go_wp2_with (first | ((with_reducible refine qA6 (f := 115) rfl ?_); refine qBP (some 103) Tryz.func115 #[.agg #[.int .i64 ((qA3 l1 x29_1).f0), .slice A268_1 ((qA3 l1 x29_1).f1).length c268_1, .int .i64 ((qA3 l1 x29_1).f2), .int .i64 ((qA3 l1 x29_1).f3), .string ((qA3 l1 x29_1).f4)], .slice Ao78 x12_3.length co78, .agg #[.string t282, .int .i64 t283, .int .i64 t284, .bool t285, .slice Ao60 t286.length co60]] ?_; (with_reducible refine (qA5.calls kj45 ((qA3 l1 x29_1).f0) _ _ ((qA3 l1 x29_1).f1) ((qA3 l1 x29_1).f2) ((qA3 l1 x29_1).f3) ((qA3 l1 x29_1).f4) _ _ x12_3 t282 t283 t284 t285 _ _ t286 t292 true _ ?side1 ?side2 ?side3 ?side4 ?side5 ?side6 A70.out).mono ?_); (case side1 => repeat (first | exact (Kd.qAE HR268_1.out HB.out) | refine sC ?_)); (case side2 => exact HC268_1.out); (case side3 => repeat (first | exact (Kd.qB3 HO_12.out).2.2 | refine sC ?_)); (case side4 => exact (Kd.qB3 HO_12.out).2.1); (case side5 => repeat (first | exact (Kd.qF1 HO_279004.out).2.2 | refine sC ?_)); (case side6 => exact (Kd.qF1 HO_279004.out).2.1); rintro e w79 ⟨rfl, hb⟩; refine ⟨_, rfl, ?_⟩; replace HO_7 := qA0.mk (Kd.qBN (by (with_reducible repeat refine sR ?_); exact HO_7.out) hb); replace HO_12 := qA0.mk (Kd.qBN (by (with_reducible repeat refine sR ?_); exact HO_12.out) hb); replace HO_279004 := qA0.mk (Kd.V_below (by (with_reducible repeat (first | apply Kd.V_alloc | apply Kd.qEI | apply Kd.V_drew)); exact HO_279004.out) hb); replace BK269 := zK BK269 hb; replace BK278 := zK BK278 hb; replace HB := zB hb; (try clear hb hk); (try clear hb); have p74 : 0 ≤ (x29_1 : Int) := zd; have q74 : (x29_1 : Int) < ((x7_1.length : Int) : Int) := zd; obtain ⟨go74, co74, eo74, gb74, gl74, cl74, HG74⟩ := Kd.R_form HO_7.out (by omega); (first | cases eo74 | (injection eo74 with ea_ en_ ec_; (first | subst ea_ | (injection ea_ with ea_; subst ea_)); subst ec_; clear en_)); have GB74 := qA0.mk gb74; have GG74 := qA0.mk HG74; clear gb74 gl74 HG74; obtain ⟨hx74_0, hf74_0⟩ := Kd.R_celln 0 HO_7.out (x29_1 : Int) p74 q74; replace p74 := eq_true p74; replace q74 := eq_true q74; obtain ⟨hy80_, hz80_⟩ := Kd.R_celln 0 HO_7.out (x29_1 : Int) (zd) (zd); have HP80 := Kd.R_putg HO_7.out (x29_1 : Int) t292) | ((with_reducible refine qDP (t := 3) (p := 111) rfl ?_); refine qE8 (t := 3) (p := 111) (v := ?vo_w81) (w1 := (w79.setCell ⟨go74, (x29_1 : Int).toNat, none⟩ (.int .i64 t292))) ?hg ?ho ?hn ?hr ?_; (case ho => rfl); (case hg => rfl); (case hn => rfl); (case hr => first | (go_simp; done) | (go_simp; rfl)); intro w81 hw; have hg : w79.grownBy w81 (some go74) := (by rw [hw]; exact HP80.2); have hp_ : Kd.R (Kd.int .i64) 3 w81 w.heap.size (fun k_ => some k_ ≠ (.slice Ao78 x12_3.length co78 : Value).ownBlock) (.slice (some ⟨go74, 0, none⟩) x7_1.length co74) y294 := (by rw [hw, Ny294.out]; exact HP80.1); clear HP80; replace HO_12 := qA0.mk (Kd.R_after (v := (.slice (some ⟨go74, 0, none⟩) x7_1.length co74)) (v1 := (.slice (some ⟨go74, 0, none⟩) x7_1.length co74)) (ok := (fun _ => True)) (by (with_reducible repeat refine sR ?_); exact Kd.qB7 HO_12.out (fun _ hk => ⟨trivial, hk⟩)) hg (.inl rfl)); replace HO_279004 := qA0.mk (Kd.V_afterv (v := (.slice (some ⟨go74, 0, none⟩) x7_1.length co74)) (v1 := (.slice (some ⟨go74, 0, none⟩) x7_1.length co74)) (ok := (fun k_ => some k_ ≠ (.slice Ao78 x12_3.length co78 : Value).ownBlock ∧ k_ ≠ gb269 ∧ k_ ≠ gb278)) (by (with_reducible repeat (first | apply Kd.V_alloc | apply Kd.qEI | apply Kd.V_drew)); exact Kd.qFA HO_279004.out (fun _ hk => ⟨⟨hk.2.1, ⟨hk.2.2.1, hk.2.2.2⟩⟩, hk.1⟩)) hg (.inl rfl)); replace BK269 := qA0.mk (qAO (g := gb269) (o := .cells #[.int .i64 ((qA3 l1 x29_1).f0), .slice A268_1 ((qA3 l1 x29_1).f1).length c268_1, .int .i64 ((qA3 l1 x29_1).f2), .int .i64 ((qA3 l1 x29_1).f3), .string ((qA3 l1 x29_1).f4)] 66 (0, 0)) (zk BK269) hg (Kd.R_ne HO_7.out BK269.out (by decide))); replace BK278 := qA0.mk (qAO (g := gb278) (o := .cells #[.string t282, .int .i64 t283, .int .i64 t284, .bool t285, .slice Ao60 t286.length co60] 95 (0, 0)) (zk BK278) hg (Kd.R_ne HO_7.out BK278.out (by decide))); replace HO_7 := qA0.mk (hp_); replace HB := qA0.mk ((by rw [hw]; exact qA7 (HB.out) GB74.out : Below w.heap.size w w81)); clear hg hw hp_))
 go_roundg kj45
 case measure => have := HK1.out; have := HJ12.out; have := HK3.out; have := HJ45.out; omega
 case rel => exact ⟨(y294), (wrap64 (x29_1 + 1)), zs, H', ⟨by have := HK1.out; have := HJ12.out; have := HK3.out; have := HJ45.out; omega⟩, ⟨by (with_reducible repeat refine sR ?_); exact Kd.qB7 HO_7.out (fun _ hk => trivial)⟩, ⟨zb⟩⟩
def qBI.j0 : Nat → List (S76) → Bool → ByteArray → ByteArray → List (S66) → List (S66) → List (S114) → Int → Option (Int)
 | 0, _, _, _, _, _, _, _, _ => none
 | k + 1, x0, x18, x299000, x299001, x299002, x299003, x299004, x299005 => if x18 = true then (some 1) else (if (x299004.length : Int) > 8 then (some 2) else ((qAR.f k x0 x299001).bind fun bt299 => (if bt299.2.2.2.2.2.2.2 = true then (if bt299.2.2.1 = true then (some 19) else (if (x299002.length : Int) > 0 then ((qAJ.f k x0 x299002).bind fun bt308 => (if bt308.2 = 0 then (if bt308.1 = 1 then ((qAJ.f k x0 x299003).bind fun bt310 => (if bt310.2 = 0 then (if bt310.1 = bt299.2.1 then (some bt310.2) else (some 8)) else (some bt310.2))) else (some 8)) else (some bt308.2))) else ((qAJ.f k x0 x299003).bind fun bt312 => (if bt312.2 = 0 then (if bt312.1 = bt299.2.1 then (some bt312.2) else (some 8)) else (some bt312.2))))) else (some 4))))
def qBI.f (k : Nat) (l0 : List (S76)) (a1_0 : ByteArray) (a1_1 : ByteArray) (l1_2 : List (S66)) (l1_3 : List (S66)) (l1_4 : List (S114)) (a1_5 : Int) : Option (Int) := if a1_5 < 0 then (qBI.j0 k l0 true a1_0 a1_1 l1_2 l1_3 l1_4 a1_5) else (qBI.j0 k l0 (decide (a1_5 > 9)) a1_0 a1_1 l1_2 l1_3 l1_4 a1_5)
theorem qBI.qC6 : ∀ k, (∀ y0 y1 y2 y3 y4 y5 y6 y7, LeO (qBI.j0 k y0 y1 y2 y3 y4 y5 y6 y7) (qBI.j0 (k + 1) y0 y1 y2 y3 y4 y5 y6 y7))
 | 0 => fun _ _ _ _ _ _ _ _ r h => by simp [qBI.j0] at h
 | k + 1 => by
  have ih0 := qBI.qC6 k
  ·intro y0 y1 y2 y3 y4 y5 y6 y7
   unfold qBI.j0
   have im0 := @qAR.mono
   have im1 := @qAJ.mono
   exact zm
theorem qBI.mono : ∀ a0 a1 a2 a3 a4 a5 a6 k, LeO (qBI.f k a0 a1 a2 a3 a4 a5 a6) (qBI.f (k + 1) a0 a1 a2 a3 a4 a5 a6) := by
 intro a0 a1 a2 a3 a4 a5 a6 k
 have ih0 := qBI.qC6 k
 unfold qBI.f
 have im0 := @qAR.mono
 have im1 := @qAJ.mono
 exact zm
theorem qBI.calls (k : Nat) (A0 : Option Addr) (c0 : Nat) (l0 : List (S76)) (a1_0 : ByteArray) (a1_1 : ByteArray) (A1_2 : Option Addr) (c1_2 : Nat) (l1_2 : List (S66)) (A1_3 : Option Addr) (c1_3 : Nat) (l1_3 : List (S66)) (A1_4 : Option Addr) (c1_4 : Nat) (l1_4 : List (S114)) (a1_5 : Int) (r : Int) (w : World) (hr0 : Kd.C k76 w A0 l0.length l0) (hc0 : l0.length ≤ c0) (hr1_2 : Kd.C k66 w A1_2 l1_2.length l1_2) (hc1_2 : l1_2.length ≤ c1_2) (hr1_3 : Kd.C k66 w A1_3 l1_3.length l1_3) (hc1_3 : l1_3.length ≤ c1_3) (hr1_4 : Kd.C k114 w A1_4 l1_4.length l1_4) (hc1_4 : l1_4.length ≤ c1_4) (h : qBI.f k l0 a1_0 a1_1 l1_2 l1_3 l1_4 a1_5 = some r) :
  Calls Tryz.prog 50 #[.slice A0 l0.length c0, .agg #[.string a1_0, .string a1_1, .slice A1_2 l1_2.length c1_2, .slice A1_3 l1_3.length c1_3, .slice A1_4 l1_4.length c1_4, .int .i64 a1_5]] w fun e w' => e = .returned (.int .i64 r) ∧ Below w.heap.size w w' := by
 have hu72 := Tryz.underlying72
 have hu60 := Tryz.underlying60
 have HR0 := qA0.mk hr0
 have HC0 := qA0.mk hc0
 clear hr0 hc0
 have HR1_2 := qA0.mk hr1_2
 have HC1_2 := qA0.mk hc1_2
 clear hr1_2 hc1_2
 have HR1_3 := qA0.mk hr1_3
 have HC1_3 := qA0.mk hc1_3
 clear hr1_3 hc1_3
 have HR1_4 := qA0.mk hr1_4
 have HC1_4 := qA0.mk hc1_4
 clear hr1_4 hc1_4
 have HB := qA0.mk (Below.refl w.heap.size w)
 have H := h
 unfold qBI.f at H
 clear h
 have HC3 := qA0.mk H
 clear H
 go_enter Tryz.func50, Tryz.ntmps50
 go_upto_region 1 with (((with_reducible refine qA9 (N := 3) rfl ?_); refine boxZ 3 #[.string a1_0, .string a1_1, .slice A1_2 l1_2.length c1_2, .slice A1_3 l1_3.length c1_3, .slice A1_4 l1_4.length c1_4, .int .i64 a1_5] 72 ?_; intro gb298 hg w4 hbox hb; have BK298 := qA0.mk (hbox); have GW298 := zg w gb298; have GE298 := zg w gb298; replace HB := zB hb; clear hb hbox hg))
 go_cut [18] (fun v18 wc => ∃ (kq : Nat) (x18_2 : Bool), v18 = .bool x18_2 ∧ qA0 (qBI.j0 kq l0 x18_2 a1_0 a1_1 l1_2 l1_3 l1_4 a1_5 = some r) ∧ qA0 (kq ≤ k) ∧ qA0 (wc.heap[gb298]? = some (.cells #[.string a1_0, .string a1_1, (.slice A1_2 l1_2.length c1_2), (.slice A1_3 l1_3.length c1_3), (.slice A1_4 l1_4.length c1_4), .int .i64 a1_5] 72 (0, 0))) ∧ qA0 (Below w.heap.size w wc))
 case first =>
  have H := HC3.out
  clear HC3
  by_cases c5 : a1_5 < 0
  rotate_left
  ·rw [if_neg c5] at H
   have c5b0 := decide_eq_false c5
   clear c5
   (first | rw [c5b0] | (simp only [qC9, qCB]; rw [c5b0]) | skip)
   have H' := qA0.mk H
   clear H
   obtain ⟨hcz7_0, hcz7_1, hcz7_2, hcz7_3, hcz7_4, hcz7_5, hfz7_0, hfz7_1, hfz7_2, hfz7_3, hfz7_4, hfz7_5⟩ := bc6 BK298.out
   go_wp2
   go_meet
   case rel => exact ⟨_, (decide (a1_5 > 9)), zs, H', ⟨by first | omega | exact Nat.le_refl _⟩, ⟨zk BK298⟩, ⟨zb⟩⟩
  rw [if_pos c5] at H
  have c5b0 := decide_eq_true c5
  clear c5
  (first | rw [c5b0] | (simp only [qC9, qCB]; rw [c5b0]) | skip)
  have H' := qA0.mk H
  clear H
  obtain ⟨hcz6_0, hcz6_1, hcz6_2, hcz6_3, hcz6_4, hcz6_5, hfz6_0, hfz6_1, hfz6_2, hfz6_3, hfz6_4, hfz6_5⟩ := bc6 BK298.out
  go_wp2
  go_meet
  case rel => exact ⟨_, (true), zs, H', ⟨by first | omega | exact Nat.le_refl _⟩, ⟨zk BK298⟩, ⟨zb⟩⟩
 clear HC3
 obtain ⟨kq, x18_2, rfl, HA, HJ2, BK298, HB⟩ := hcut
 obtain _ | kj2 := kq
 ·exact absurd HA.out (by simp [qBI.j0])
 have H := HA.out
 clear HA
 simp only [qBI.j0] at H
 by_cases c8 : x18_2 = true
 ·subst c8
  rw [if_pos rfl] at H
  obtain rfl := Option.some.inj H
  go_wp2
  go_ret
  exact ⟨zf, zb⟩
 replace c8 := Bool.eq_false_iff.mpr c8
 subst c8
 rw [zj] at H
 by_cases c9 : (l1_4.length : Int) > 8
 ·rw [if_pos c9] at H
  have c9b0 := decide_eq_true c9
  have c9b1 : decide (8 < l1_4.length) = true := decide_eq_true (by omega)
  clear c9
  obtain rfl := Option.some.inj H
  obtain ⟨hcz10_0, hcz10_1, hcz10_2, hcz10_3, hcz10_4, hcz10_5, hfz10_0, hfz10_1, hfz10_2, hfz10_3, hfz10_4, hfz10_5⟩ := bc6 BK298.out
  go_wp2
  go_ret
  exact ⟨zf, zb⟩
 rw [if_neg c9] at H
 have c9b0 := decide_eq_false c9
 have c9b1 : decide (8 < l1_4.length) = false := decide_eq_false (by omega)
 clear c9
 replace H := zi H
 obtain ⟨⟨t299, t300, t301, t302, t303, t304, t305, t306⟩, A110, H⟩ := H
 dsimp only at H
 have A11 := qA0.mk A110
 clear A110
 by_cases c12 : t306 = true
 rotate_left
 ·replace c12 := Bool.eq_false_iff.mpr c12
  subst c12
  rw [zj] at H
  obtain rfl := Option.some.inj H
  obtain ⟨hcz95_0, hcz95_1, hcz95_2, hcz95_3, hcz95_4, hcz95_5, hfz95_0, hfz95_1, hfz95_2, hfz95_3, hfz95_4, hfz95_5⟩ := bc6 BK298.out
  go_wp2_with (first | ((with_reducible refine qA6 (f := 23) rfl ?_); refine qBP (some 27) Tryz.func23 #[.slice A0 l0.length c0, .string a1_1] ?_; (with_reducible refine (qAR.calls kj2 _ _ l0 a1_1 t299 t300 t301 t302 t303 t304 t305 false _ ?side1 ?side2 A11.out).mono ?_); (case side1 => repeat (first | exact (Kd.qAE HR0.out HB.out) | refine sC ?_)); (case side2 => exact HC0.out); rintro e w96 ⟨rfl, hb⟩; refine ⟨_, rfl, ?_⟩; replace BK298 := zK BK298 hb; replace HB := zB hb; (try clear hb hk); (try clear hb)) | ((with_reducible refine qA9 (N := 5) rfl ?_); refine boxZ 5 #[.string (⟨#[]⟩ : ByteArray), .int .i64 0, .bool false, .int .i64 0, .int .i64 0, .int .i64 0, .int .i64 0] 60 ?_; intro gb307 hg w97 hbox hb; have BK307 := qA0.mk (hbox); have GW307 := zg w gb307; have GE307 := zg w gb307; have NB298_307 := zl BK298 gb307; have NB307_298 := zu BK298 gb307; replace BK298 := zK BK298 hb; replace HB := zB hb; clear hb hbox hg; have hnb98 := NB307_298.out; have hnc98 := NB298_307.out; obtain ⟨hcz99_0, hcz99_1, hcz99_2, hcz99_3, hcz99_4, hcz99_5, hcz99_6, hfz99_0, hfz99_1, hfz99_2, hfz99_3, hfz99_4, hfz99_5, hfz99_6⟩ := bc7 BK307.out))
  go_ret
  exact ⟨zf, zb⟩
 subst c12
 rw [if_pos rfl] at H
 by_cases c13 : t301 = true
 ·subst c13
  rw [if_pos rfl] at H
  obtain rfl := Option.some.inj H
  obtain ⟨hcz14_0, hcz14_1, hcz14_2, hcz14_3, hcz14_4, hcz14_5, hfz14_0, hfz14_1, hfz14_2, hfz14_3, hfz14_4, hfz14_5⟩ := bc6 BK298.out
  go_wp2_with (first | ((with_reducible refine qA6 (f := 23) rfl ?_); refine qBP (some 27) Tryz.func23 #[.slice A0 l0.length c0, .string a1_1] ?_; (with_reducible refine (qAR.calls kj2 _ _ l0 a1_1 t299 t300 true t302 t303 t304 t305 true _ ?side1 ?side2 A11.out).mono ?_); (case side1 => repeat (first | exact (Kd.qAE HR0.out HB.out) | refine sC ?_)); (case side2 => exact HC0.out); rintro e w15 ⟨rfl, hb⟩; refine ⟨_, rfl, ?_⟩; replace BK298 := zK BK298 hb; replace HB := zB hb; (try clear hb hk); (try clear hb)) | ((with_reducible refine qA9 (N := 5) rfl ?_); refine boxZ 5 #[.string (⟨#[]⟩ : ByteArray), .int .i64 0, .bool false, .int .i64 0, .int .i64 0, .int .i64 0, .int .i64 0] 60 ?_; intro gb307 hg w16 hbox hb; have BK307 := qA0.mk (hbox); have GW307 := zg w gb307; have GE307 := zg w gb307; have NB298_307 := zl BK298 gb307; have NB307_298 := zu BK298 gb307; replace BK298 := zK BK298 hb; replace HB := zB hb; clear hb hbox hg; have hnb17 := NB307_298.out; have hnc17 := NB298_307.out; obtain ⟨hcz18_0, hcz18_1, hcz18_2, hcz18_3, hcz18_4, hcz18_5, hcz18_6, hfz18_0, hfz18_1, hfz18_2, hfz18_3, hfz18_4, hfz18_5, hfz18_6⟩ := bc7 BK307.out))
  go_ret
  exact ⟨zf, zb⟩
 replace c13 := Bool.eq_false_iff.mpr c13
 subst c13
 rw [zj] at H
 by_cases c19 : (l1_2.length : Int) > 0
 rotate_left
 ·rw [if_neg c19] at H
  have c19b0 := decide_eq_false c19
  have c19b1 : decide (0 < l1_2.length) = false := decide_eq_false (by omega)
  clear c19
  replace H := zi H
  obtain ⟨⟨t312, t313⟩, A690, H⟩ := H
  dsimp only at H
  have A69 := qA0.mk A690
  clear A690
  by_cases c70 : t313 = 0
  rotate_left
  ·rw [if_neg c70] at H
   have ⟨c70b0, c70b1⟩ := zn c70
   obtain rfl := Option.some.inj H
   obtain ⟨hcz88_0, hcz88_1, hcz88_2, hcz88_3, hcz88_4, hcz88_5, hfz88_0, hfz88_1, hfz88_2, hfz88_3, hfz88_4, hfz88_5⟩ := bc6 BK298.out
   go_wp2_with (first | ((with_reducible refine qA6 (f := 23) rfl ?_); refine qBP (some 27) Tryz.func23 #[.slice A0 l0.length c0, .string a1_1] ?_; (with_reducible refine (qAR.calls kj2 _ _ l0 a1_1 t299 t300 false t302 t303 t304 t305 true _ ?side1 ?side2 A11.out).mono ?_); (case side1 => repeat (first | exact (Kd.qAE HR0.out HB.out) | refine sC ?_)); (case side2 => exact HC0.out); rintro e w89 ⟨rfl, hb⟩; refine ⟨_, rfl, ?_⟩; replace BK298 := zK BK298 hb; replace HB := zB hb; (try clear hb hk); (try clear hb)) | ((with_reducible refine qA9 (N := 5) rfl ?_); refine boxZ 5 #[.string (⟨#[]⟩ : ByteArray), .int .i64 0, .bool false, .int .i64 0, .int .i64 0, .int .i64 0, .int .i64 0] 60 ?_; intro gb307 hg w90 hbox hb; have BK307 := qA0.mk (hbox); have GW307 := zg w gb307; have GE307 := zg w gb307; have NB298_307 := zl BK298 gb307; have NB307_298 := zu BK298 gb307; replace BK298 := zK BK298 hb; replace HB := zB hb; clear hb hbox hg; have hnb91 := NB307_298.out; have hnc91 := NB298_307.out; obtain ⟨hcz92_0, hcz92_1, hcz92_2, hcz92_3, hcz92_4, hcz92_5, hcz92_6, hfz92_0, hfz92_1, hfz92_2, hfz92_3, hfz92_4, hfz92_5, hfz92_6⟩ := bc7 BK307.out; obtain ⟨hcz93_0, hcz93_1, hcz93_2, hcz93_3, hcz93_4, hcz93_5, hfz93_0, hfz93_1, hfz93_2, hfz93_3, hfz93_4, hfz93_5⟩ := bc6 BK298.out) | ((with_reducible refine qA6 (f := 75) rfl ?_); refine qBP (some 54) Tryz.func75 #[.slice A0 l0.length c0, .slice A1_3 l1_3.length c1_3] ?_; (with_reducible refine (qAJ.calls kj2 _ _ l0 _ _ l1_3 t312 t313 _ ?side1 ?side2 ?side3 ?side4 A69.out).mono ?_); (case side1 => exact Kd.qAE HR0.out zb); (case side2 => exact HC0.out); (case side3 => exact Kd.qAE HR1_3.out zb); (case side4 => exact HC1_3.out); rintro e w94 ⟨rfl, hb⟩; refine ⟨_, rfl, ?_⟩; replace BK298 := qA0.mk (qAL (g := gb298) (o := .cells #[.string a1_0, .string a1_1, .slice A1_2 l1_2.length c1_2, .slice A1_3 l1_3.length c1_3, .slice A1_4 l1_4.length c1_4, .int .i64 a1_5] 72 (0, 0)) (by refine zf7 ?_ NB298_307; (with_reducible repeat refine st ?_); exact BK298.out) hb); replace BK307 := qA0.mk (qAL (zp7 BK307) hb); replace HB := zB hb; (try clear hb hk); (try clear hb)))
   go_ret
   exact ⟨zf, zb⟩
  rw [if_pos c70] at H
  have ⟨c70b0, c70b1⟩ := ze c70
  clear c70
  by_cases c71 : t312 = t300
  rotate_left
  ·rw [if_neg c71] at H
   have ⟨c71b0, c71b1⟩ := zn c71
   obtain rfl := Option.some.inj H
   obtain ⟨hcz80_0, hcz80_1, hcz80_2, hcz80_3, hcz80_4, hcz80_5, hfz80_0, hfz80_1, hfz80_2, hfz80_3, hfz80_4, hfz80_5⟩ := bc6 BK298.out
   go_wp2_with (first | ((with_reducible refine qA6 (f := 23) rfl ?_); refine qBP (some 27) Tryz.func23 #[.slice A0 l0.length c0, .string a1_1] ?_; (with_reducible refine (qAR.calls kj2 _ _ l0 a1_1 t299 t300 false t302 t303 t304 t305 true _ ?side1 ?side2 A11.out).mono ?_); (case side1 => repeat (first | exact (Kd.qAE HR0.out HB.out) | refine sC ?_)); (case side2 => exact HC0.out); rintro e w81 ⟨rfl, hb⟩; refine ⟨_, rfl, ?_⟩; replace BK298 := zK BK298 hb; replace HB := zB hb; (try clear hb hk); (try clear hb)) | ((with_reducible refine qA9 (N := 5) rfl ?_); refine boxZ 5 #[.string (⟨#[]⟩ : ByteArray), .int .i64 0, .bool false, .int .i64 0, .int .i64 0, .int .i64 0, .int .i64 0] 60 ?_; intro gb307 hg w82 hbox hb; have BK307 := qA0.mk (hbox); have GW307 := zg w gb307; have GE307 := zg w gb307; have NB298_307 := zl BK298 gb307; have NB307_298 := zu BK298 gb307; replace BK298 := zK BK298 hb; replace HB := zB hb; clear hb hbox hg; have hnb83 := NB307_298.out; have hnc83 := NB298_307.out; obtain ⟨hcz84_0, hcz84_1, hcz84_2, hcz84_3, hcz84_4, hcz84_5, hcz84_6, hfz84_0, hfz84_1, hfz84_2, hfz84_3, hfz84_4, hfz84_5, hfz84_6⟩ := bc7 BK307.out; obtain ⟨hcz85_0, hcz85_1, hcz85_2, hcz85_3, hcz85_4, hcz85_5, hfz85_0, hfz85_1, hfz85_2, hfz85_3, hfz85_4, hfz85_5⟩ := bc6 BK298.out) | ((with_reducible refine qA6 (f := 75) rfl ?_); refine qBP (some 54) Tryz.func75 #[.slice A0 l0.length c0, .slice A1_3 l1_3.length c1_3] ?_; (with_reducible refine (qAJ.calls kj2 _ _ l0 _ _ l1_3 t312 t313 _ ?side1 ?side2 ?side3 ?side4 A69.out).mono ?_); (case side1 => exact Kd.qAE HR0.out zb); (case side2 => exact HC0.out); (case side3 => exact Kd.qAE HR1_3.out zb); (case side4 => exact HC1_3.out); rintro e w86 ⟨rfl, hb⟩; refine ⟨_, rfl, ?_⟩; replace BK298 := qA0.mk (qAL (g := gb298) (o := .cells #[.string a1_0, .string a1_1, .slice A1_2 l1_2.length c1_2, .slice A1_3 l1_3.length c1_3, .slice A1_4 l1_4.length c1_4, .int .i64 a1_5] 72 (0, 0)) (by refine zf7 ?_ NB298_307; (with_reducible repeat refine st ?_); exact BK298.out) hb); replace BK307 := qA0.mk (qAL (zp7 BK307) hb); replace HB := zB hb; (try clear hb hk); (try clear hb); obtain ⟨hcz87_0, hcz87_1, hcz87_2, hcz87_3, hcz87_4, hcz87_5, hcz87_6, hfz87_0, hfz87_1, hfz87_2, hfz87_3, hfz87_4, hfz87_5, hfz87_6⟩ := bc7 BK307.out))
   go_ret
   exact ⟨zf, zb⟩
  rw [if_pos c71] at H
  have ⟨c71b0, c71b1⟩ := ze c71
  clear c71
  obtain rfl := Option.some.inj H
  obtain ⟨hcz72_0, hcz72_1, hcz72_2, hcz72_3, hcz72_4, hcz72_5, hfz72_0, hfz72_1, hfz72_2, hfz72_3, hfz72_4, hfz72_5⟩ := bc6 BK298.out
  go_wp2_with (first | ((with_reducible refine qA6 (f := 23) rfl ?_); refine qBP (some 27) Tryz.func23 #[.slice A0 l0.length c0, .string a1_1] ?_; (with_reducible refine (qAR.calls kj2 _ _ l0 a1_1 t299 t300 false t302 t303 t304 t305 true _ ?side1 ?side2 A11.out).mono ?_); (case side1 => repeat (first | exact (Kd.qAE HR0.out HB.out) | refine sC ?_)); (case side2 => exact HC0.out); rintro e w73 ⟨rfl, hb⟩; refine ⟨_, rfl, ?_⟩; replace BK298 := zK BK298 hb; replace HB := zB hb; (try clear hb hk); (try clear hb)) | ((with_reducible refine qA9 (N := 5) rfl ?_); refine boxZ 5 #[.string (⟨#[]⟩ : ByteArray), .int .i64 0, .bool false, .int .i64 0, .int .i64 0, .int .i64 0, .int .i64 0] 60 ?_; intro gb307 hg w74 hbox hb; have BK307 := qA0.mk (hbox); have GW307 := zg w gb307; have GE307 := zg w gb307; have NB298_307 := zl BK298 gb307; have NB307_298 := zu BK298 gb307; replace BK298 := zK BK298 hb; replace HB := zB hb; clear hb hbox hg; have hnb75 := NB307_298.out; have hnc75 := NB298_307.out; obtain ⟨hcz76_0, hcz76_1, hcz76_2, hcz76_3, hcz76_4, hcz76_5, hcz76_6, hfz76_0, hfz76_1, hfz76_2, hfz76_3, hfz76_4, hfz76_5, hfz76_6⟩ := bc7 BK307.out; obtain ⟨hcz77_0, hcz77_1, hcz77_2, hcz77_3, hcz77_4, hcz77_5, hfz77_0, hfz77_1, hfz77_2, hfz77_3, hfz77_4, hfz77_5⟩ := bc6 BK298.out) | ((with_reducible refine qA6 (f := 75) rfl ?_); refine qBP (some 54) Tryz.func75 #[.slice A0 l0.length c0, .slice A1_3 l1_3.length c1_3] ?_; (with_reducible refine (qAJ.calls kj2 _ _ l0 _ _ l1_3 t312 t313 _ ?side1 ?side2 ?side3 ?side4 A69.out).mono ?_); (case side1 => exact Kd.qAE HR0.out zb); (case side2 => exact HC0.out); (case side3 => exact Kd.qAE HR1_3.out zb); (case side4 => exact HC1_3.out); rintro e w78 ⟨rfl, hb⟩; refine ⟨_, rfl, ?_⟩; replace BK298 := qA0.mk (qAL (g := gb298) (o := .cells #[.string a1_0, .string a1_1, .slice A1_2 l1_2.length c1_2, .slice A1_3 l1_3.length c1_3, .slice A1_4 l1_4.length c1_4, .int .i64 a1_5] 72 (0, 0)) (by refine zf7 ?_ NB298_307; (with_reducible repeat refine st ?_); exact BK298.out) hb); replace BK307 := qA0.mk (qAL (zp7 BK307) hb); replace HB := zB hb; (try clear hb hk); (try clear hb); obtain ⟨hcz79_0, hcz79_1, hcz79_2, hcz79_3, hcz79_4, hcz79_5, hcz79_6, hfz79_0, hfz79_1, hfz79_2, hfz79_3, hfz79_4, hfz79_5, hfz79_6⟩ := bc7 BK307.out))
  go_ret
  exact ⟨zf, zb⟩
 rw [if_pos c19] at H
 have c19b0 := decide_eq_true c19
 have c19b1 : decide (0 < l1_2.length) = true := decide_eq_true (by omega)
 clear c19
 replace H := zi H
 obtain ⟨⟨t308, t309⟩, A200, H⟩ := H
 dsimp only at H
 have A20 := qA0.mk A200
 clear A200
 by_cases c21 : t309 = 0
 rotate_left
 ·rw [if_neg c21] at H
  have ⟨c21b0, c21b1⟩ := zn c21
  obtain rfl := Option.some.inj H
  obtain ⟨hcz62_0, hcz62_1, hcz62_2, hcz62_3, hcz62_4, hcz62_5, hfz62_0, hfz62_1, hfz62_2, hfz62_3, hfz62_4, hfz62_5⟩ := bc6 BK298.out
  go_wp2_with (first | ((with_reducible refine qA6 (f := 23) rfl ?_); refine qBP (some 27) Tryz.func23 #[.slice A0 l0.length c0, .string a1_1] ?_; (with_reducible refine (qAR.calls kj2 _ _ l0 a1_1 t299 t300 false t302 t303 t304 t305 true _ ?side1 ?side2 A11.out).mono ?_); (case side1 => repeat (first | exact (Kd.qAE HR0.out HB.out) | refine sC ?_)); (case side2 => exact HC0.out); rintro e w63 ⟨rfl, hb⟩; refine ⟨_, rfl, ?_⟩; replace BK298 := zK BK298 hb; replace HB := zB hb; (try clear hb hk); (try clear hb)) | ((with_reducible refine qA9 (N := 5) rfl ?_); refine boxZ 5 #[.string (⟨#[]⟩ : ByteArray), .int .i64 0, .bool false, .int .i64 0, .int .i64 0, .int .i64 0, .int .i64 0] 60 ?_; intro gb307 hg w64 hbox hb; have BK307 := qA0.mk (hbox); have GW307 := zg w gb307; have GE307 := zg w gb307; have NB298_307 := zl BK298 gb307; have NB307_298 := zu BK298 gb307; replace BK298 := zK BK298 hb; replace HB := zB hb; clear hb hbox hg; have hnb65 := NB307_298.out; have hnc65 := NB298_307.out; obtain ⟨hcz66_0, hcz66_1, hcz66_2, hcz66_3, hcz66_4, hcz66_5, hcz66_6, hfz66_0, hfz66_1, hfz66_2, hfz66_3, hfz66_4, hfz66_5, hfz66_6⟩ := bc7 BK307.out; obtain ⟨hcz67_0, hcz67_1, hcz67_2, hcz67_3, hcz67_4, hcz67_5, hfz67_0, hfz67_1, hfz67_2, hfz67_3, hfz67_4, hfz67_5⟩ := bc6 BK298.out) | ((with_reducible refine qA6 (f := 75) rfl ?_); refine qBP (some 42) Tryz.func75 #[.slice A0 l0.length c0, .slice A1_2 l1_2.length c1_2] ?_; (with_reducible refine (qAJ.calls kj2 _ _ l0 _ _ l1_2 t308 t309 _ ?side1 ?side2 ?side3 ?side4 A20.out).mono ?_); (case side1 => exact Kd.qAE HR0.out zb); (case side2 => exact HC0.out); (case side3 => exact Kd.qAE HR1_2.out zb); (case side4 => exact HC1_2.out); rintro e w68 ⟨rfl, hb⟩; refine ⟨_, rfl, ?_⟩; replace BK298 := qA0.mk (qAL (g := gb298) (o := .cells #[.string a1_0, .string a1_1, .slice A1_2 l1_2.length c1_2, .slice A1_3 l1_3.length c1_3, .slice A1_4 l1_4.length c1_4, .int .i64 a1_5] 72 (0, 0)) (by refine zf7 ?_ NB298_307; (with_reducible repeat refine st ?_); exact BK298.out) hb); replace BK307 := qA0.mk (qAL (zp7 BK307) hb); replace HB := zB hb; (try clear hb hk); (try clear hb)))
  go_ret
  exact ⟨zf, zb⟩
 rw [if_pos c21] at H
 have ⟨c21b0, c21b1⟩ := ze c21
 clear c21
 by_cases c22 : t308 = 1
 rotate_left
 ·rw [if_neg c22] at H
  have ⟨c22b0, c22b1⟩ := zn c22
  obtain rfl := Option.some.inj H
  obtain ⟨hcz55_0, hcz55_1, hcz55_2, hcz55_3, hcz55_4, hcz55_5, hfz55_0, hfz55_1, hfz55_2, hfz55_3, hfz55_4, hfz55_5⟩ := bc6 BK298.out
  go_wp2_with (first | ((with_reducible refine qA6 (f := 23) rfl ?_); refine qBP (some 27) Tryz.func23 #[.slice A0 l0.length c0, .string a1_1] ?_; (with_reducible refine (qAR.calls kj2 _ _ l0 a1_1 t299 t300 false t302 t303 t304 t305 true _ ?side1 ?side2 A11.out).mono ?_); (case side1 => repeat (first | exact (Kd.qAE HR0.out HB.out) | refine sC ?_)); (case side2 => exact HC0.out); rintro e w56 ⟨rfl, hb⟩; refine ⟨_, rfl, ?_⟩; replace BK298 := zK BK298 hb; replace HB := zB hb; (try clear hb hk); (try clear hb)) | ((with_reducible refine qA9 (N := 5) rfl ?_); refine boxZ 5 #[.string (⟨#[]⟩ : ByteArray), .int .i64 0, .bool false, .int .i64 0, .int .i64 0, .int .i64 0, .int .i64 0] 60 ?_; intro gb307 hg w57 hbox hb; have BK307 := qA0.mk (hbox); have GW307 := zg w gb307; have GE307 := zg w gb307; have NB298_307 := zl BK298 gb307; have NB307_298 := zu BK298 gb307; replace BK298 := zK BK298 hb; replace HB := zB hb; clear hb hbox hg; have hnb58 := NB307_298.out; have hnc58 := NB298_307.out; obtain ⟨hcz59_0, hcz59_1, hcz59_2, hcz59_3, hcz59_4, hcz59_5, hcz59_6, hfz59_0, hfz59_1, hfz59_2, hfz59_3, hfz59_4, hfz59_5, hfz59_6⟩ := bc7 BK307.out; obtain ⟨hcz60_0, hcz60_1, hcz60_2, hcz60_3, hcz60_4, hcz60_5, hfz60_0, hfz60_1, hfz60_2, hfz60_3, hfz60_4, hfz60_5⟩ := bc6 BK298.out) | ((with_reducible refine qA6 (f := 75) rfl ?_); refine qBP (some 42) Tryz.func75 #[.slice A0 l0.length c0, .slice A1_2 l1_2.length c1_2] ?_; (with_reducible refine (qAJ.calls kj2 _ _ l0 _ _ l1_2 t308 t309 _ ?side1 ?side2 ?side3 ?side4 A20.out).mono ?_); (case side1 => exact Kd.qAE HR0.out zb); (case side2 => exact HC0.out); (case side3 => exact Kd.qAE HR1_2.out zb); (case side4 => exact HC1_2.out); rintro e w61 ⟨rfl, hb⟩; refine ⟨_, rfl, ?_⟩; replace BK298 := qA0.mk (qAL (g := gb298) (o := .cells #[.string a1_0, .string a1_1, .slice A1_2 l1_2.length c1_2, .slice A1_3 l1_3.length c1_3, .slice A1_4 l1_4.length c1_4, .int .i64 a1_5] 72 (0, 0)) (by refine zf7 ?_ NB298_307; (with_reducible repeat refine st ?_); exact BK298.out) hb); replace BK307 := qA0.mk (qAL (zp7 BK307) hb); replace HB := zB hb; (try clear hb hk); (try clear hb)))
  go_ret
  exact ⟨zf, zb⟩
 rw [if_pos c22] at H
 have ⟨c22b0, c22b1⟩ := ze c22
 clear c22
 replace H := zi H
 obtain ⟨⟨t310, t311⟩, A230, H⟩ := H
 dsimp only at H
 have A23 := qA0.mk A230
 clear A230
 by_cases c24 : t311 = 0
 rotate_left
 ·rw [if_neg c24] at H
  have ⟨c24b0, c24b1⟩ := zn c24
  obtain rfl := Option.some.inj H
  obtain ⟨hcz46_0, hcz46_1, hcz46_2, hcz46_3, hcz46_4, hcz46_5, hfz46_0, hfz46_1, hfz46_2, hfz46_3, hfz46_4, hfz46_5⟩ := bc6 BK298.out
  go_wp2_with (first | ((with_reducible refine qA6 (f := 23) rfl ?_); refine qBP (some 27) Tryz.func23 #[.slice A0 l0.length c0, .string a1_1] ?_; (with_reducible refine (qAR.calls kj2 _ _ l0 a1_1 t299 t300 false t302 t303 t304 t305 true _ ?side1 ?side2 A11.out).mono ?_); (case side1 => repeat (first | exact (Kd.qAE HR0.out HB.out) | refine sC ?_)); (case side2 => exact HC0.out); rintro e w47 ⟨rfl, hb⟩; refine ⟨_, rfl, ?_⟩; replace BK298 := zK BK298 hb; replace HB := zB hb; (try clear hb hk); (try clear hb)) | ((with_reducible refine qA9 (N := 5) rfl ?_); refine boxZ 5 #[.string (⟨#[]⟩ : ByteArray), .int .i64 0, .bool false, .int .i64 0, .int .i64 0, .int .i64 0, .int .i64 0] 60 ?_; intro gb307 hg w48 hbox hb; have BK307 := qA0.mk (hbox); have GW307 := zg w gb307; have GE307 := zg w gb307; have NB298_307 := zl BK298 gb307; have NB307_298 := zu BK298 gb307; replace BK298 := zK BK298 hb; replace HB := zB hb; clear hb hbox hg; have hnb49 := NB307_298.out; have hnc49 := NB298_307.out; obtain ⟨hcz50_0, hcz50_1, hcz50_2, hcz50_3, hcz50_4, hcz50_5, hcz50_6, hfz50_0, hfz50_1, hfz50_2, hfz50_3, hfz50_4, hfz50_5, hfz50_6⟩ := bc7 BK307.out; obtain ⟨hcz51_0, hcz51_1, hcz51_2, hcz51_3, hcz51_4, hcz51_5, hfz51_0, hfz51_1, hfz51_2, hfz51_3, hfz51_4, hfz51_5⟩ := bc6 BK298.out) | ((with_reducible refine qA6 (f := 75) rfl ?_); refine qBP (some 42) Tryz.func75 #[.slice A0 l0.length c0, .slice A1_2 l1_2.length c1_2] ?_; (with_reducible refine (qAJ.calls kj2 _ _ l0 _ _ l1_2 t308 t309 _ ?side1 ?side2 ?side3 ?side4 A20.out).mono ?_); (case side1 => exact Kd.qAE HR0.out zb); (case side2 => exact HC0.out); (case side3 => exact Kd.qAE HR1_2.out zb); (case side4 => exact HC1_2.out); rintro e w52 ⟨rfl, hb⟩; refine ⟨_, rfl, ?_⟩; replace BK298 := qA0.mk (qAL (g := gb298) (o := .cells #[.string a1_0, .string a1_1, .slice A1_2 l1_2.length c1_2, .slice A1_3 l1_3.length c1_3, .slice A1_4 l1_4.length c1_4, .int .i64 a1_5] 72 (0, 0)) (by refine zf7 ?_ NB298_307; (with_reducible repeat refine st ?_); exact BK298.out) hb); replace BK307 := qA0.mk (qAL (zp7 BK307) hb); replace HB := zB hb; (try clear hb hk); (try clear hb); obtain ⟨hcz53_0, hcz53_1, hcz53_2, hcz53_3, hcz53_4, hcz53_5, hfz53_0, hfz53_1, hfz53_2, hfz53_3, hfz53_4, hfz53_5⟩ := bc6 BK298.out) | ((with_reducible refine qA6 (f := 75) rfl ?_); refine qBP (some 54) Tryz.func75 #[.slice A0 l0.length c0, .slice A1_3 l1_3.length c1_3] ?_; (with_reducible refine (qAJ.calls kj2 _ _ l0 _ _ l1_3 t310 t311 _ ?side1 ?side2 ?side3 ?side4 A23.out).mono ?_); (case side1 => repeat (first | exact (Kd.qAE HR0.out HB.out) | refine sC ?_)); (case side2 => exact HC0.out); (case side3 => repeat (first | exact (Kd.qAE HR1_3.out HB.out) | refine sC ?_)); (case side4 => exact HC1_3.out); rintro e w54 ⟨rfl, hb⟩; refine ⟨_, rfl, ?_⟩; replace BK298 := zK BK298 hb; replace BK307 := zK BK307 hb; replace HB := zB hb; (try clear hb hk); (try clear hb)))
  go_ret
  exact ⟨zf, zb⟩
 rw [if_pos c24] at H
 have ⟨c24b0, c24b1⟩ := ze c24
 clear c24
 by_cases c25 : t310 = t300
 rotate_left
 ·rw [if_neg c25] at H
  have ⟨c25b0, c25b1⟩ := zn c25
  obtain rfl := Option.some.inj H
  obtain ⟨hcz36_0, hcz36_1, hcz36_2, hcz36_3, hcz36_4, hcz36_5, hfz36_0, hfz36_1, hfz36_2, hfz36_3, hfz36_4, hfz36_5⟩ := bc6 BK298.out
  go_wp2_with (first | ((with_reducible refine qA6 (f := 23) rfl ?_); refine qBP (some 27) Tryz.func23 #[.slice A0 l0.length c0, .string a1_1] ?_; (with_reducible refine (qAR.calls kj2 _ _ l0 a1_1 t299 t300 false t302 t303 t304 t305 true _ ?side1 ?side2 A11.out).mono ?_); (case side1 => repeat (first | exact (Kd.qAE HR0.out HB.out) | refine sC ?_)); (case side2 => exact HC0.out); rintro e w37 ⟨rfl, hb⟩; refine ⟨_, rfl, ?_⟩; replace BK298 := zK BK298 hb; replace HB := zB hb; (try clear hb hk); (try clear hb)) | ((with_reducible refine qA9 (N := 5) rfl ?_); refine boxZ 5 #[.string (⟨#[]⟩ : ByteArray), .int .i64 0, .bool false, .int .i64 0, .int .i64 0, .int .i64 0, .int .i64 0] 60 ?_; intro gb307 hg w38 hbox hb; have BK307 := qA0.mk (hbox); have GW307 := zg w gb307; have GE307 := zg w gb307; have NB298_307 := zl BK298 gb307; have NB307_298 := zu BK298 gb307; replace BK298 := zK BK298 hb; replace HB := zB hb; clear hb hbox hg; have hnb39 := NB307_298.out; have hnc39 := NB298_307.out; obtain ⟨hcz40_0, hcz40_1, hcz40_2, hcz40_3, hcz40_4, hcz40_5, hcz40_6, hfz40_0, hfz40_1, hfz40_2, hfz40_3, hfz40_4, hfz40_5, hfz40_6⟩ := bc7 BK307.out; obtain ⟨hcz41_0, hcz41_1, hcz41_2, hcz41_3, hcz41_4, hcz41_5, hfz41_0, hfz41_1, hfz41_2, hfz41_3, hfz41_4, hfz41_5⟩ := bc6 BK298.out) | ((with_reducible refine qA6 (f := 75) rfl ?_); refine qBP (some 42) Tryz.func75 #[.slice A0 l0.length c0, .slice A1_2 l1_2.length c1_2] ?_; (with_reducible refine (qAJ.calls kj2 _ _ l0 _ _ l1_2 t308 t309 _ ?side1 ?side2 ?side3 ?side4 A20.out).mono ?_); (case side1 => exact Kd.qAE HR0.out zb); (case side2 => exact HC0.out); (case side3 => exact Kd.qAE HR1_2.out zb); (case side4 => exact HC1_2.out); rintro e w42 ⟨rfl, hb⟩; refine ⟨_, rfl, ?_⟩; replace BK298 := qA0.mk (qAL (g := gb298) (o := .cells #[.string a1_0, .string a1_1, .slice A1_2 l1_2.length c1_2, .slice A1_3 l1_3.length c1_3, .slice A1_4 l1_4.length c1_4, .int .i64 a1_5] 72 (0, 0)) (by refine zf7 ?_ NB298_307; (with_reducible repeat refine st ?_); exact BK298.out) hb); replace BK307 := qA0.mk (qAL (zp7 BK307) hb); replace HB := zB hb; (try clear hb hk); (try clear hb); obtain ⟨hcz43_0, hcz43_1, hcz43_2, hcz43_3, hcz43_4, hcz43_5, hfz43_0, hfz43_1, hfz43_2, hfz43_3, hfz43_4, hfz43_5⟩ := bc6 BK298.out) | ((with_reducible refine qA6 (f := 75) rfl ?_); refine qBP (some 54) Tryz.func75 #[.slice A0 l0.length c0, .slice A1_3 l1_3.length c1_3] ?_; (with_reducible refine (qAJ.calls kj2 _ _ l0 _ _ l1_3 t310 t311 _ ?side1 ?side2 ?side3 ?side4 A23.out).mono ?_); (case side1 => repeat (first | exact (Kd.qAE HR0.out HB.out) | refine sC ?_)); (case side2 => exact HC0.out); (case side3 => repeat (first | exact (Kd.qAE HR1_3.out HB.out) | refine sC ?_)); (case side4 => exact HC1_3.out); rintro e w44 ⟨rfl, hb⟩; refine ⟨_, rfl, ?_⟩; replace BK298 := zK BK298 hb; replace BK307 := zK BK307 hb; replace HB := zB hb; (try clear hb hk); (try clear hb); obtain ⟨hcz45_0, hcz45_1, hcz45_2, hcz45_3, hcz45_4, hcz45_5, hcz45_6, hfz45_0, hfz45_1, hfz45_2, hfz45_3, hfz45_4, hfz45_5, hfz45_6⟩ := bc7 BK307.out))
  go_ret
  exact ⟨zf, zb⟩
 rw [if_pos c25] at H
 have ⟨c25b0, c25b1⟩ := ze c25
 clear c25
 obtain rfl := Option.some.inj H
 obtain ⟨hcz26_0, hcz26_1, hcz26_2, hcz26_3, hcz26_4, hcz26_5, hfz26_0, hfz26_1, hfz26_2, hfz26_3, hfz26_4, hfz26_5⟩ := bc6 BK298.out
 go_wp2_with (first | ((with_reducible refine qA6 (f := 23) rfl ?_); refine qBP (some 27) Tryz.func23 #[.slice A0 l0.length c0, .string a1_1] ?_; (with_reducible refine (qAR.calls kj2 _ _ l0 a1_1 t299 t300 false t302 t303 t304 t305 true _ ?side1 ?side2 A11.out).mono ?_); (case side1 => repeat (first | exact (Kd.qAE HR0.out HB.out) | refine sC ?_)); (case side2 => exact HC0.out); rintro e w27 ⟨rfl, hb⟩; refine ⟨_, rfl, ?_⟩; replace BK298 := zK BK298 hb; replace HB := zB hb; (try clear hb hk); (try clear hb)) | ((with_reducible refine qA9 (N := 5) rfl ?_); refine boxZ 5 #[.string (⟨#[]⟩ : ByteArray), .int .i64 0, .bool false, .int .i64 0, .int .i64 0, .int .i64 0, .int .i64 0] 60 ?_; intro gb307 hg w28 hbox hb; have BK307 := qA0.mk (hbox); have GW307 := zg w gb307; have GE307 := zg w gb307; have NB298_307 := zl BK298 gb307; have NB307_298 := zu BK298 gb307; replace BK298 := zK BK298 hb; replace HB := zB hb; clear hb hbox hg; have hnb29 := NB307_298.out; have hnc29 := NB298_307.out; obtain ⟨hcz30_0, hcz30_1, hcz30_2, hcz30_3, hcz30_4, hcz30_5, hcz30_6, hfz30_0, hfz30_1, hfz30_2, hfz30_3, hfz30_4, hfz30_5, hfz30_6⟩ := bc7 BK307.out; obtain ⟨hcz31_0, hcz31_1, hcz31_2, hcz31_3, hcz31_4, hcz31_5, hfz31_0, hfz31_1, hfz31_2, hfz31_3, hfz31_4, hfz31_5⟩ := bc6 BK298.out) | ((with_reducible refine qA6 (f := 75) rfl ?_); refine qBP (some 42) Tryz.func75 #[.slice A0 l0.length c0, .slice A1_2 l1_2.length c1_2] ?_; (with_reducible refine (qAJ.calls kj2 _ _ l0 _ _ l1_2 t308 t309 _ ?side1 ?side2 ?side3 ?side4 A20.out).mono ?_); (case side1 => exact Kd.qAE HR0.out zb); (case side2 => exact HC0.out); (case side3 => exact Kd.qAE HR1_2.out zb); (case side4 => exact HC1_2.out); rintro e w32 ⟨rfl, hb⟩; refine ⟨_, rfl, ?_⟩; replace BK298 := qA0.mk (qAL (g := gb298) (o := .cells #[.string a1_0, .string a1_1, .slice A1_2 l1_2.length c1_2, .slice A1_3 l1_3.length c1_3, .slice A1_4 l1_4.length c1_4, .int .i64 a1_5] 72 (0, 0)) (by refine zf7 ?_ NB298_307; (with_reducible repeat refine st ?_); exact BK298.out) hb); replace BK307 := qA0.mk (qAL (zp7 BK307) hb); replace HB := zB hb; (try clear hb hk); (try clear hb); obtain ⟨hcz33_0, hcz33_1, hcz33_2, hcz33_3, hcz33_4, hcz33_5, hfz33_0, hfz33_1, hfz33_2, hfz33_3, hfz33_4, hfz33_5⟩ := bc6 BK298.out) | ((with_reducible refine qA6 (f := 75) rfl ?_); refine qBP (some 54) Tryz.func75 #[.slice A0 l0.length c0, .slice A1_3 l1_3.length c1_3] ?_; (with_reducible refine (qAJ.calls kj2 _ _ l0 _ _ l1_3 t310 t311 _ ?side1 ?side2 ?side3 ?side4 A23.out).mono ?_); (case side1 => repeat (first | exact (Kd.qAE HR0.out HB.out) | refine sC ?_)); (case side2 => exact HC0.out); (case side3 => repeat (first | exact (Kd.qAE HR1_3.out HB.out) | refine sC ?_)); (case side4 => exact HC1_3.out); rintro e w34 ⟨rfl, hb⟩; refine ⟨_, rfl, ?_⟩; replace BK298 := zK BK298 hb; replace BK307 := zK BK307 hb; replace HB := zB hb; (try clear hb hk); (try clear hb); obtain ⟨hcz35_0, hcz35_1, hcz35_2, hcz35_3, hcz35_4, hcz35_5, hcz35_6, hfz35_0, hfz35_1, hfz35_2, hfz35_3, hfz35_4, hfz35_5, hfz35_6⟩ := bc7 BK307.out))
 go_ret
 exact ⟨zf, zb⟩
theorem qD6.walk (ad : Addr) (n c : Nat) (news : List Value) (w : World) (hl : news.length = n * 1) (hn : n ≤ maxLen) (hbig : n * 8 ≤ 140737488355328) (hc : ∀ j u, news[j]? = some u → w.cell? (ad.add j) = some u) (h1 : ∀ u ∈ news, u.oneCell' = true) :
  Calls Tryz.prog 160 #[.slice (some ad) n c] w fun e w' => ∃ v', e = .returned v' ∧ w'.ownsRow w.heap.size 3 1 v' n news ∧ Below w.heap.size w w' := by
 have q22 : ∀ (w : World) (a : Option Addr) (n c n' c' : Nat), (binOp .eql 24 (.slice a n c) (.slice none n' c')).run Tryz.prog w = .ok (.bool a.isNone) w := fun w a n c n' c' => Lib.run_eql_slice_nil w _ _ a n c n' c' Tryz.underlying24
 have A : qA0 (∀ j u, news[j]? = some u → w.cell? (ad.add j) = some u) := ⟨hc⟩
 clear hc
 obtain ⟨i0, hi, hz0, hz1, hz2⟩ := info_parts info3
 go_enter Tryz.func160, Tryz.ntmps160
 go_wp2_with (at_builtin; refine wpList_append_own _ rfl _ _ 24 rfl w.heap.size 3 i0 (.int .i64 0) 1 8 Tryz.underlying24 hi hz0 hz1 hz2 rfl (by decide) _ _ _ rfl (World.ownsRow_made w #[] 0 (Nat.le_refl _) (Nat.zero_le _) (by simp)) ad n c news rfl ?qc1 ?qc2 ?qc3 ?qc4 ?qc5 ?qc6 ?_)
 case qc1 => exact hl
 case qc2 =>
  intro j u hj
  exact Lib.cell?_alloc_some _ (A.out j u hj)
 case qc3 => exact h1
 case qc4 => rw [Nat.zero_add]; exact hn
 case qc5 => rw [Nat.zero_add]; exact hbig
 case qc6 => simp
 intro v' w1 hown hgrow hnil
 go_wp2
 go_ret
 exact ⟨v', rfl, by simpa using hown, ((Below.refl _ w).alloc (Nat.le_refl _) _).grown hgrow (by simp) (by intro k hk; simp [Value.ownBlock] at hk; omega)⟩
theorem qD6.nil (n c : Nat) (w : World) : Calls Tryz.prog 160 #[.slice none n c] w fun e w' => e = .returned (.slice none 0 0) ∧ w' = w := by
 have q22 : ∀ (w : World) (a : Option Addr) (n c n' c' : Nat), (binOp .eql 24 (.slice a n c) (.slice none n' c')).run Tryz.prog w = .ok (.bool a.isNone) w := fun w a n c n' c' => Lib.run_eql_slice_nil w _ _ a n c n' c' Tryz.underlying24
 go_enter Tryz.func160, Tryz.ntmps160
 go_wp2
 go_ret
 exact ⟨rfl, rfl⟩
def qD6.f (l0 : List Int) : Option (List Int) := if l0.length * 8 ≤ 140737488355328 then some l0 else none
def qD6.enc (x : Int) : List Value := [.int .i64 x]
theorem qD6.calls (A0 : Option Addr) (c0 : Nat) (l0 : List Int) (r : List Int) (w : World) (hr0 : Kd.C (Kd.int .i64) w A0 l0.length l0) (hc0 : l0.length ≤ c0) (h : qD6.f l0 = some r) :
  Calls Tryz.prog 160 #[.slice A0 l0.length c0] w fun e w' => ∃ v0_ : Value, e = .returned (v0_) ∧ Kd.R (Kd.int .i64) 3 w' w.heap.size (fun _ => True) v0_ r ∧ Below w.heap.size w w' := by
 unfold qD6.f at h
 by_cases hsz : l0.length * 8 ≤ 140737488355328
 case neg => rw [if_neg hsz] at h; cases h
 rw [if_pos hsz] at h
 obtain rfl := Option.some.inj h
 clear h
 cases A0 with
 | none =>
  refine (qD6.nil _ _ w).mono ?_
  rintro e w' ⟨rfl, rfl⟩
  have e0 : l0 = [] := by
   rcases Nat.eq_zero_or_pos l0.length with h | h
   ·exact List.length_eq_zero_iff.1 h
   ·obtain ⟨_, h', _⟩ := hr0.2.2 h; cases h'
  subst e0
  exact ⟨_, rfl, Kd.qEM _ _ _ _ _, Below.refl _ _⟩
 | some ad =>
  have hlen := Gen.flat_len qD6.enc 1 (fun _ => rfl) l0
  refine (qD6.walk ad l0.length c0 (l0.flatMap qD6.enc) w hlen (by simp only [maxLen]; omega) hsz (Gen.flat_cells qD6.enc 1 (by decide) (fun _ => rfl) (fun p c h => h) hr0) (fun u hu => ?_)).mono ?_
  ·obtain ⟨x, _, hx⟩ := List.mem_flatMap.1 hu
   simp [qD6.enc] at hx
   subst hx; rfl
  ·rintro e w' ⟨v', rfl, ho, hB⟩
   exact ⟨v', rfl, ⟨fun _ _ => trivial, _, ho, Gen.flat_reps _ qD6.enc 1 (fun _ => rfl) l0 (fun p => rfl)⟩, hB⟩
def qC5.l0 : Nat → List (S66) → List (S66) → Int → Int → Option ((List (S66)))
 | 0, _, _, _, _ => none
 | k + 1, x3, x6, x7, x8 => if x8 < x7 then (if 0 ≤ x8 then (if x8 < (x6.length : Int) then ((qD6.f ((qA3 x6 x8).f1)).bind fun t316 => (if x3.length < 2199023255552 then (qC5.l0 k (x3 ++ [(⟨(qA3 x6 x8).f0, t316, (qA3 x6 x8).f2, (qA3 x6 x8).f3, (qA3 x6 x8).f4⟩ : S66)]) x6 x7 (wrap64 (x8 + 1))) else (none))) else (none)) else (none)) else (some x3)
def qC5.f (k : Nat) (l0 : List (S66)) : Option ((List (S66))) := qC5.l0 k ([] : List (S66)) l0 (l0.length : Int) 0
theorem qC5.qC6 : ∀ k, (∀ y0 y1 y2 y3, LeO (qC5.l0 k y0 y1 y2 y3) (qC5.l0 (k + 1) y0 y1 y2 y3))
 | 0 => fun _ _ _ _ r h => by simp [qC5.l0] at h
 | k + 1 => by
  have ih0 := qC5.qC6 k
  ·intro y0 y1 y2 y3
   unfold qC5.l0
   exact zm
theorem qC5.mono : ∀ a0 k, LeO (qC5.f k a0) (qC5.f (k + 1) a0) := by
 intro a0 k
 have ih0 := qC5.qC6 k
 unfold qC5.f
 exact zm
theorem qC5.calls (k : Nat) (A0 : Option Addr) (c0 : Nat) (l0 : List (S66)) (r : List (S66)) (w : World) (hr0 : Kd.C k66 w A0 l0.length l0) (hc0 : l0.length ≤ c0) (h : qC5.f k l0 = some r) :
  Calls Tryz.prog 148 #[.slice A0 l0.length c0] w fun e w' => ∃ v0_ : Value, e = .returned (v0_) ∧ Kd.S k66 66 w' w.heap.size (fun _ => True) v0_ r ∧ Below w.heap.size w w' := by
 have hu66 := Tryz.underlying66
 have HR0 := qA0.mk hr0
 have HC0 := qA0.mk hc0
 clear hr0 hc0
 have HB := qA0.mk (Below.refl w.heap.size w)
 have H := h
 unfold qC5.f at H
 clear h
 have H' := qA0.mk H
 clear H
 go_enter Tryz.func148, Tryz.ntmps148
 go_wp2
 go_loopg [3, 8] k (fun kq v3 v8 w' => ∃ (x3_1 : List (S66)) (x8_1 : Int), v8 = .int .i64 x8_1 ∧ qA0 (qC5.l0 kq x3_1 l0 (l0.length : Int) x8_1 = some r) ∧ qA0 (kq ≤ k) ∧ qA0 (Kd.S k66 66 w' w.heap.size (fun _ => True) v3 x3_1) ∧ qA0 (Below w.heap.size w w'))
 case atStart => exact ⟨(([] : List (S66))), (0), zs, H', ⟨Nat.le_refl _⟩, ⟨by first | exact Kd.qFB _ _ _ _ _ | exact Kd.N_nil _ _ _ _ _ | exact Kd.qF4 _ _ _ _ _ | exact Kd.Q_nil _ _ _ _ _ | exact Kd.qEM _ _ _ _ _⟩, ⟨zb⟩⟩
 clear H'
 obtain ⟨x3_1, x8_1, rfl, HA, HK1, HO_3, HB⟩ := hrel
 obtain _ | k1 := gk
 ·exact absurd HA.out (by simp [qC5.l0])
 have H := HA.out
 clear HA
 simp only [qC5.l0] at H
 by_cases c2 : x8_1 < (l0.length : Int)
 rotate_left
 ·rw [if_neg c2] at H
  have c2b0 := decide_eq_false c2
  clear c2
  obtain rfl := Option.some.inj H
  go_wp2
  go_ret
  exact ⟨_, zf, by (with_reducible repeat refine sS ?_); exact HO_3.out, zb⟩
 rw [if_pos c2] at H
 have c2b0 := decide_eq_true c2
 clear c2
 by_cases c3 : 0 ≤ x8_1
 rotate_left
 ·rw [if_neg c3] at H
  cases H
 rw [if_pos c3] at H
 have c3b0 := decide_eq_true c3
 clear c3
 by_cases c4 : x8_1 < (l0.length : Int)
 rotate_left
 ·rw [if_neg c4] at H
  cases H
 rw [if_pos c4] at H
 have c4b0 := decide_eq_true c4
 clear c4
 replace H := zi H
 obtain ⟨t316, A50, H⟩ := H
 have A5 := qA0.mk A50
 clear A50
 by_cases c6 : x3_1.length < 2199023255552
 rotate_left
 ·rw [if_neg c6] at H
  cases H
 rw [if_pos c6] at H
 have LMc6 := qA0.mk c6
 clear c6
 obtain ⟨y319, hy_⟩ : ∃ y_ : List (S66), y_ = (x3_1 ++ [(⟨(qA3 l0 x8_1).f0, t316, (qA3 l0 x8_1).f2, (qA3 l0 x8_1).f3, (qA3 l0 x8_1).f4⟩ : S66)]) := ⟨_, rfl⟩
 replace H : (qC5.l0 k1 y319 l0 (l0.length : Int) (wrap64 (x8_1 + 1))) = some r := zr
 have Ny319 := qA0.mk hy_
 clear hy_
 have H' := qA0.mk H
 clear H
 have p314 : 0 ≤ (x8_1 : Int) := zd
 have q314 : x8_1 < (l0.length : Int) := zd
 obtain ⟨ad314, A314_1, c314_1, e314, hx314_0, hx314_1, hx314_2, hx314_3, hx314_4, hl314_1, hi314_1⟩ := at_T66 HR0.out x8_1 p314 q314
 cases e314
 (try replace hx314_0 := zh hx314_0)
 replace hx314_1 := zh hx314_1
 replace hx314_2 := zh hx314_2
 replace hx314_3 := zh hx314_3
 replace hx314_4 := zh hx314_4
 have HR314_1 := qA0.mk hi314_1
 have HC314_1 := qA0.mk hl314_1
 clear hi314_1 hl314_1
 replace p314 := eq_true p314
 replace q314 := eq_true q314
 go_wp2_with (first | ((with_reducible refine qA9 (N := 5) rfl ?_); refine boxZ 5 #[.int .i64 0, .slice none 0 0, .int .i64 0, .int .i64 0, .string (⟨#[]⟩ : ByteArray)] 66 ?_; intro gb315 hg w7 hbox hb; have BK315 := qA0.mk (hbox); have GW315 := zg w gb315; have GE315 := zg w gb315; replace HO_3 := qA0.mk (Kd.qDY (Kd.S_elderB (by (with_reducible repeat refine sS ?_); exact HO_3.out) gb315 (Nat.le_of_eq hg.symm)) hb); replace HB := zB hb; clear hb hbox hg; obtain ⟨hcz8_0, hcz8_1, hcz8_2, hcz8_3, hcz8_4, hfz8_0, hfz8_1, hfz8_2, hfz8_3, hfz8_4⟩ := bc5 BK315.out) | ((with_reducible refine qA6 (f := 160) rfl ?_); refine qBP (some 14) Tryz.func160 #[.slice A314_1 ((qA3 l0 x8_1).f1).length c314_1] ?_; (with_reducible refine (qD6.calls _ _ ((qA3 l0 x8_1).f1) t316 _ ?side1 ?side2 A5.out).mono ?_); (case side1 => exact Kd.qAE HR314_1.out zb); (case side2 => exact HC314_1.out); rintro e w9 ⟨v317, rfl, ho0, hb⟩; refine ⟨_, rfl, ?_⟩; have HO318 := qA0.mk (Kd.qCI ho0 (qAI zb)); replace HO_3 := qA0.mk (Kd.S_elder' (by (with_reducible repeat refine sS ?_); exact (zSf5 (Kd.qDQ HO_3.out (fun k_ hk => (⟨hk, hk.2⟩ : _ ∧ k_ ≠ gb315))))) (Kd.R_base ho0) hb); replace BK315 := qA0.mk (qAL (zp5 BK315) hb); replace HB := zB hb; (try clear hb hk); (try clear hb); (try clear ho0); obtain ⟨Ao10, co10, eo10⟩ := Kd.qBV HO318.out; subst eo10; obtain ⟨hcz11_0, hcz11_1, hcz11_2, hcz11_3, hcz11_4, hfz11_0, hfz11_1, hfz11_2, hfz11_3, hfz11_4⟩ := bc5 BK315.out) | ((with_reducible refine qDP (t := 24) (p := 15) rfl ?_); refine qE8 (t := 24) (p := 15) (v := ?vo_w12) (w1 := (w9.setCell ⟨gb315, 1, none⟩ (.slice Ao10 t316.length co10))) ?hg ?ho ?hn ?hr ?_; (case ho => rfl); (case hg => rfl); (case hn => rfl); (case hr => first | (go_simp; done) | (go_simp; rfl)); intro w12 hw; have n0_ : qA0 (Kd.S k66 66 w12 w.heap.size (fun k_ => some k_ ≠ (.slice Ao10 t316.length co10 : Value).ownBlock ∧ k_ ≠ gb315) u3 x3_1) := ⟨(by rw [hw]; exact (by (with_reducible repeat refine sS ?_); exact Kd.qDQ (Kd.qCH (Kd.qDQ HO_3.out (fun k_ hk => (⟨hk, hk.1.2⟩ : _ ∧ k_ ≠ gb315))) (fun _ hk => hk.2) _) (fun _ hk => ⟨hk.1.2, hk.1.1.2⟩)))⟩; have n1_ : qA0 (Kd.R (Kd.int .i64) 3 w12 w.heap.size (fun _ => True) (.slice Ao10 t316.length co10) t316) := ⟨(by rw [hw]; exact (by (with_reducible repeat refine sR ?_); exact Kd.qB7 (Kd.qAW (Kd.qBG HO318.out BK315.out (by decide)) (fun _ hk => hk.2) _) (fun _ hk => trivial)))⟩; have n2_ : qA0 (w12.heap[gb315]? = some (.cells #[.int .i64 ((qA3 l0 x8_1).f0), .slice Ao10 t316.length co10, .int .i64 ((qA3 l0 x8_1).f2), .int .i64 ((qA3 l0 x8_1).f3), .string ((qA3 l0 x8_1).f4)] 66 (0, 0))) := ⟨(by rw [hw]; exact (by refine zp_ (cs := #[.int .i64 ((qA3 l0 x8_1).f0), .slice A314_1 ((qA3 l0 x8_1).f1).length c314_1, .int .i64 ((qA3 l0 x8_1).f2), .int .i64 ((qA3 l0 x8_1).f3), .string ((qA3 l0 x8_1).f4)]) ?_ 1; (with_reducible repeat refine st ?_); exact BK315.out))⟩; have n3_ : qA0 (Below w.heap.size w w12) := ⟨(by rw [hw]; exact zb)⟩; clear hw; clear HO_3; clear HO318; clear BK315; clear HB; have HO_3 := n0_; have HO318 := n1_; have BK315 := n2_; have HB := n3_; clear n0_ n1_ n2_ n3_; obtain ⟨hcz13_0, hcz13_1, hcz13_2, hcz13_3, hcz13_4, hfz13_0, hfz13_1, hfz13_2, hfz13_3, hfz13_4⟩ := bc5 BK315.out) | ((with_reducible refine qDS (b := .append) (xs := #[.tmp 16, .tmp 18]) rfl ?_); at_builtin; refine Kd.S_append k66 (w0 := w) w.heap.size rfl (.tmp 16) (.tmp 18) 68 66 (.agg #[(.int .i64 0), (.slice none 0 0), (.int .i64 0), (.int .i64 0), (.string ⟨#[]⟩)]) 64 rfl Tryz.underlying68 info66 rfl (by decide) (by omega) u3 x3_1 (⟨(qA3 l0 x8_1).f0, t316, (qA3 l0 x8_1).f2, (qA3 l0 x8_1).f3, (qA3 l0 x8_1).f4⟩ : S66) [.int .i64 ((qA3 l0 x8_1).f0), .slice Ao10 t316.length co10, .int .i64 ((qA3 l0 x8_1).f2), .int .i64 ((qA3 l0 x8_1).f3), .string ((qA3 l0 x8_1).f4)] (fun k_ => k_ ≠ gb315) (fun k_ => some k_ = (.slice Ao10 t316.length co10 : Value).ownBlock) rfl rfl ?aP (fun k_ hk_ => ((Kd.qB7 (ok' := fun k_ => ((fun k_ => k_ ≠ gb315)) k_ ∧ some k_ ≠ (u3 : Value).ownBlock) (Kd.qBG (Kd.qEU (HO318.out) (Kd.S_typed HO_3.out) (by decide)) BK315.out (by decide)) (fun k_ hk => ⟨hk.2, hk.1.2⟩))).1 k_ hk_.symm) ?aF ?aO ?aB ?aS ?aL ?_; (case aP => exact k66_mkM _ _ _ (⟨(qA3 l0 x8_1).f0, t316, (qA3 l0 x8_1).f2, (qA3 l0 x8_1).f3, (qA3 l0 x8_1).f4⟩ : S66) (Kd.qB7 (Kd.qF7 rfl (Kd.qB7 (ok' := fun k_ => ((fun k_ => k_ ≠ gb315)) k_ ∧ some k_ ≠ (u3 : Value).ownBlock) (Kd.qBG (Kd.qEU (HO318.out) (Kd.S_typed HO_3.out) (by decide)) BK315.out (by decide)) (fun k_ hk => ⟨hk.2, hk.1.2⟩))) (fun _ h_ => h_))); (case aB => exact zb); (case aF => exact (fun k_ hk => Kd.freshB (g := gb315) (o := .cells #[.int .i64 ((qA3 l0 x8_1).f0), .slice Ao10 t316.length co10, .int .i64 ((qA3 l0 x8_1).f2), .int .i64 ((qA3 l0 x8_1).f3), .string ((qA3 l0 x8_1).f4)] 66 (0, 0)) (zk BK315) k_ hk)); (case aO => exact (by (with_reducible repeat refine sS ?_); exact Kd.qDQ HO_3.out (fun k_ hk => ⟨hk.2, fun e_ => hk.1 e_⟩))); (case aS => exact (qAI zb)); (case aL => have := LMc6.out; omega); intro v320 w14 ho hb hg hat; rw [← Ny319.out] at ho; have HO321 := qA0.mk (ho); replace BK315 := qA0.mk (qAO (g := gb315) (o := .cells #[.int .i64 ((qA3 l0 x8_1).f0), .slice Ao10 t316.length co10, .int .i64 ((qA3 l0 x8_1).f2), .int .i64 ((qA3 l0 x8_1).f3), .string ((qA3 l0 x8_1).f4)] 66 (0, 0)) (zk BK315) hg (Kd.S_away HO_3.out (fun _ hk => hk.2))); replace HB := qA0.mk (hb); clear HO318; clear HO_3; clear ho hb hg hat))
 go_roundg k1
 case measure => have := HK1.out; omega
 case rel => exact ⟨(y319), (wrap64 (x8_1 + 1)), zs, H', ⟨by have := HK1.out; omega⟩, ⟨by (with_reducible repeat refine sS ?_); exact Kd.qDQ HO321.out (fun _ hk => trivial)⟩, ⟨zb⟩⟩
theorem qCA.info : (Tryz.prog.info? 114).map (fun i => (i.zero, i.size, i.bytes)) = some (some (.agg #[.string ⟨#[]⟩, .string ⟨#[]⟩]), 2, 32) := by kernel_rfl
theorem qCA.walk (ad : Addr) (n c : Nat) (news : List Value) (w : World) (hl : news.length = n * 2) (hn : n ≤ maxLen) (hbig : n * 32 ≤ 140737488355328) (hc : ∀ j u, news[j]? = some u → w.cell? (ad.add j) = some u) (h1 : ∀ u ∈ news, u.oneCell' = true) :
  Calls Tryz.prog 149 #[.slice (some ad) n c] w fun e w' => ∃ v', e = .returned v' ∧ w'.ownsRow w.heap.size 114 2 v' n news ∧ Below w.heap.size w w' := by
 have q22 : ∀ (w : World) (a : Option Addr) (n c n' c' : Nat), (binOp .eql 70 (.slice a n c) (.slice none n' c')).run Tryz.prog w = .ok (.bool a.isNone) w := fun w a n c n' c' => Lib.run_eql_slice_nil w _ _ a n c n' c' Tryz.underlying70
 have A : qA0 (∀ j u, news[j]? = some u → w.cell? (ad.add j) = some u) := ⟨hc⟩
 clear hc
 obtain ⟨i0, hi, hz0, hz1, hz2⟩ := info_parts qCA.info
 go_enter Tryz.func149, Tryz.ntmps149
 go_wp2_with (at_builtin; refine wpList_append_own _ rfl _ _ 70 rfl w.heap.size 114 i0 (.agg #[.string ⟨#[]⟩, .string ⟨#[]⟩]) 2 32 Tryz.underlying70 hi hz0 hz1 hz2 rfl (by decide) _ _ _ rfl (World.ownsRow_made w #[] 0 (Nat.le_refl _) (Nat.zero_le _) (by simp)) ad n c news rfl ?qc1 ?qc2 ?qc3 ?qc4 ?qc5 ?qc6 ?_)
 case qc1 => exact hl
 case qc2 =>
  intro j u hj
  exact Lib.cell?_alloc_some _ (A.out j u hj)
 case qc3 => exact h1
 case qc4 => rw [Nat.zero_add]; exact hn
 case qc5 => rw [Nat.zero_add]; exact hbig
 case qc6 => simp
 intro v' w1 hown hgrow hnil
 go_wp2
 go_ret
 exact ⟨v', rfl, by simpa using hown, ((Below.refl _ w).alloc (Nat.le_refl _) _).grown hgrow (by simp) (by intro k hk; simp [Value.ownBlock] at hk; omega)⟩
theorem qCA.nil (n c : Nat) (w : World) : Calls Tryz.prog 149 #[.slice none n c] w fun e w' => e = .returned (.slice none 0 0) ∧ w' = w := by
 have q22 : ∀ (w : World) (a : Option Addr) (n c n' c' : Nat), (binOp .eql 70 (.slice a n c) (.slice none n' c')).run Tryz.prog w = .ok (.bool a.isNone) w := fun w a n c n' c' => Lib.run_eql_slice_nil w _ _ a n c n' c' Tryz.underlying70
 go_enter Tryz.func149, Tryz.ntmps149
 go_wp2
 go_ret
 exact ⟨rfl, rfl⟩
def qCA.f (l0 : List S114) : Option (List S114) := if l0.length * 32 ≤ 140737488355328 then some l0 else none
def qCA.enc (x : S114) : List Value := [.string x.f0, .string x.f1]
theorem qCA.calls (A0 : Option Addr) (c0 : Nat) (l0 : List S114) (r : List S114) (w : World) (hr0 : Kd.C k114 w A0 l0.length l0) (hc0 : l0.length ≤ c0) (h : qCA.f l0 = some r) :
  Calls Tryz.prog 149 #[.slice A0 l0.length c0] w fun e w' => ∃ v0_ : Value, e = .returned (v0_) ∧ Kd.R k114 114 w' w.heap.size (fun _ => True) v0_ r ∧ Below w.heap.size w w' := by
 unfold qCA.f at h
 by_cases hsz : l0.length * 32 ≤ 140737488355328
 case neg => rw [if_neg hsz] at h; cases h
 rw [if_pos hsz] at h
 obtain rfl := Option.some.inj h
 clear h
 cases A0 with
 | none =>
  refine (qCA.nil _ _ w).mono ?_
  rintro e w' ⟨rfl, rfl⟩
  have e0 : l0 = [] := by
   rcases Nat.eq_zero_or_pos l0.length with h | h
   ·exact List.length_eq_zero_iff.1 h
   ·obtain ⟨_, h', _⟩ := hr0.2.2 h; cases h'
  subst e0
  exact ⟨_, rfl, Kd.qEM _ _ _ _ _, Below.refl _ _⟩
 | some ad =>
  have hlen := Gen.flat_len qCA.enc 2 (fun _ => rfl) l0
  refine (qCA.walk ad l0.length c0 (l0.flatMap qCA.enc) w hlen (by simp only [maxLen]; omega) hsz (Gen.flat_cells qCA.enc 2 (by decide) (fun _ => rfl) (fun p c h => k114_open h) hr0) (fun u hu => ?_)).mono ?_
  ·obtain ⟨x, _, hx⟩ := List.mem_flatMap.1 hu
   simp [qCA.enc] at hx
   rcases hx with rfl | rfl <;> rfl
  ·rintro e w' ⟨v', rfl, ho, hB⟩
   exact ⟨v', rfl, ⟨fun _ _ => trivial, _, ho, Gen.flat_reps _ qCA.enc 2 (fun _ => rfl) l0 (fun p => k114_mkM _ _ _ p)⟩, hB⟩
attribute [local go_sem high] eqA114
def qB5.f (k : Nat) (a0_0 : ByteArray) (a0_1 : ByteArray) (l0_2 : List (S66)) (l0_3 : List (S66)) (l0_4 : List (S114)) (a0_5 : Int) : Option (ByteArray × ByteArray × (List (S66)) × (List (S66)) × (List (S114)) × Int) := (qC5.f k l0_2).bind fun t324 => ((qC5.f k l0_3).bind fun t327 => ((qCA.f l0_4).bind fun t330 => (some (a0_0, a0_1, t324, t327, t330, a0_5))))
theorem qB5.mono : ∀ a0 a1 a2 a3 a4 a5 k, LeO (qB5.f k a0 a1 a2 a3 a4 a5) (qB5.f (k + 1) a0 a1 a2 a3 a4 a5) := by
 intro a0 a1 a2 a3 a4 a5 k
 unfold qB5.f
 have im0 := @qC5.mono
 exact zm
def qB5.T1 : Bool × List (List Nat × List Nat) := (true, [([], []), ([0], [0]), ([1], [1]), ([], []), ([3], [3]), ([4, 2], [4]), ([], []), ([6], [6]), ([7, 5], [7]), ([0, 1, 2, 3, 4, 6, 7], []), ([9, 2, 8, 0, 1, 2, 3, 4, 6, 7], [2, 9]), ([0, 1, 2, 3, 4, 5, 6, 7, 9, 10], []), ([11, 5, 10, 0, 1, 2, 3, 4, 5, 6, 7, 9, 10], [5, 11]), ([0, 1, 2, 3, 4, 5, 6, 7, 8, 9, 10, 11, 12], []), ([13, 8, 12, 0, 1, 2, 3, 4, 5, 6, 7, 8, 9, 10, 11, 12], [8, 13])])
def qB5.B1 : List Nat := [0, 1, 3, 0, 8, 31, 0, 64, 255, 223, 1023, 2047, 4095, 8191, 16383]
theorem qB5.tab1 : rtab .any (opsOf Tryz.f116 1) = qB5.T1 := by kernel_rfl
theorem qB5.bits1 : qDW qB5.T1.2 qB5.B1 = true := by kernel_rfl
set_option maxHeartbeats 8000000 in
set_option maxRecDepth 100000 in
theorem qB5.calls (k : Nat) (a0_0 : ByteArray) (a0_1 : ByteArray) (A0_2 : Option Addr) (c0_2 : Nat) (l0_2 : List (S66)) (A0_3 : Option Addr) (c0_3 : Nat) (l0_3 : List (S66)) (A0_4 : Option Addr) (c0_4 : Nat) (l0_4 : List (S114)) (a0_5 : Int) (r1 : ByteArray) (r2 : ByteArray) (r3 : List (S66)) (r4 : List (S66)) (r5 : List (S114)) (r6 : Int) (w : World) (hr0_2 : Kd.C k66 w A0_2 l0_2.length l0_2) (hc0_2 : l0_2.length ≤ c0_2) (hr0_3 : Kd.C k66 w A0_3 l0_3.length l0_3) (hc0_3 : l0_3.length ≤ c0_3) (hr0_4 : Kd.C k114 w A0_4 l0_4.length l0_4) (hc0_4 : l0_4.length ≤ c0_4) (h : qB5.f k a0_0 a0_1 l0_2 l0_3 l0_4 a0_5 = some (r1, r2, r3, r4, r5, r6)) :
  Calls Tryz.prog 116 #[.agg #[.string a0_0, .string a0_1, .slice A0_2 l0_2.length c0_2, .slice A0_3 l0_3.length c0_3, .slice A0_4 l0_4.length c0_4, .int .i64 a0_5]] w fun e w' => ∃ v2_ v3_ v4_ : Value, e = .returned (.agg #[.string r1, .string r2, v2_, v3_, v4_, .int .i64 r6]) ∧ Kd.S k66 66 w' w.heap.size (fun k_ => some k_ ≠ (v3_ : Value).ownBlock) v2_ r3 ∧ Kd.S k66 66 w' w.heap.size (fun k_ => some k_ ≠ (v2_ : Value).ownBlock) v3_ r4 ∧ Kd.R k114 114 w' w.heap.size (fun _ => True) v4_ r5 ∧ Below w.heap.size w w' := by
 have hu72 := Tryz.underlying72
 have HR0_2 := qA0.mk hr0_2
 have HC0_2 := qA0.mk hc0_2
 clear hr0_2 hc0_2
 have HR0_3 := qA0.mk hr0_3
 have HC0_3 := qA0.mk hc0_3
 clear hr0_3 hc0_3
 have HR0_4 := qA0.mk hr0_4
 have HC0_4 := qA0.mk hc0_4
 clear hr0_4 hc0_4
 have HB := qA0.mk (Below.refl w.heap.size w)
 have H : ((qC5.f k l0_2).bind fun t324 => ((qC5.f k l0_3).bind fun t327 => ((qCA.f l0_4).bind fun t330 => (some (a0_0, a0_1, t324, t327, t330, a0_5))))) = some (r1, r2, r3, r4, r5, r6) := h
 clear h
 replace H := Option.bind_eq_some_iff.mp H
 obtain ⟨t324, A20, H⟩ := H
 have A2 := qA0.mk A20
 clear A20
 replace H := Option.bind_eq_some_iff.mp H
 obtain ⟨t327, A30, H⟩ := H
 have A3 := qA0.mk A30
 clear A30
 replace H := Option.bind_eq_some_iff.mp H
 obtain ⟨t330, A40, H⟩ := H
 have A4 := qA0.mk A40
 clear A40
 simp only [Option.some.injEq, Prod.mk.injEq] at H
 obtain ⟨rfl, rfl, rfl, rfl, rfl, rfl⟩ := H
 go_enter Tryz.func116, Tryz.ntmps116
 try go_wp2_with (first | ((with_reducible refine qA9 (N := 1) rfl ?_); refine box_event ?hg (N := 1) ?hd (cs := #[.string a0_0, .string a0_1, .slice A0_2 l0_2.length c0_2, .slice A0_3 l0_3.length c0_3, .slice A0_4 l0_4.length c0_4, .int .i64 a0_5]) (t := 72) ?hr ?_; (case hd => rfl); (case hg => rfl); (case hr => first | (go_simp; done) | (go_simp; rfl)); intro gb322 hg w5 hbox hb; have BK322 := qA0.mk (hbox); have GW322 := zg w gb322; have GE322 := zg w gb322; replace HB := qA0.mk (qBZ zb hb); clear hb hbox hg) | ((with_reducible refine qA9 (N := 2) rfl ?_); refine box_event ?hg (N := 2) ?hd (cs := #[.string (⟨#[]⟩ : ByteArray), .string (⟨#[]⟩ : ByteArray), .slice none 0 0, .slice none 0 0, .slice none 0 0, .int .i64 0]) (t := 72) ?hr ?_; (case hd => rfl); (case hg => rfl); (case hr => first | (go_simp; done) | (go_simp; rfl)); intro gb323 hg w6 hbox hb; have BK323 := qA0.mk (hbox); have GW323 := zg w gb323; have GE323 := zg w gb323; have NB322_323 := zl BK322 gb323; have NB323_322 := zu BK322 gb323; replace BK322 := qA0.mk (qAL (zk BK322) hb); replace HB := qA0.mk (qBZ zb hb); clear hb hbox hg))
 replace BK322 := qA0.mk (qB2 BK322.out)
 replace BK323 := qA0.mk (qB2 BK323.out)
 replace HB := qA0.mk (qAF HB.out)
 refine qEA (n := 15) (S := fun w' => w'.cell? ⟨gb322, 0, none⟩ = some (.string a0_0) ∧ w'.cell? ⟨gb322, 1, none⟩ = some (.string a0_1) ∧ w'.cell? ⟨gb322, 2, none⟩ = some (.slice A0_2 l0_2.length c0_2) ∧ w'.cell? ⟨gb322, 3, none⟩ = some (.slice A0_3 l0_3.length c0_3) ∧ w'.cell? ⟨gb322, 4, none⟩ = some (.slice A0_4 l0_4.length c0_4) ∧ w'.cell? ⟨gb322, 5, none⟩ = some (.int .i64 a0_5)) (ds := [10, 12, 14]) (bs 15 0) (by kernel_rfl) rfl rfl ⟨(qA1 BK322.out 0).trans rfl, (qA1 BK322.out 1).trans rfl, (qA1 BK322.out 2).trans rfl, (qA1 BK322.out 3).trans rfl, (qA1 BK322.out 4).trans rfl, (qA1 BK322.out 5).trans rfl⟩ (fun hHeld => ?_); refine qCS qB5.tab1 qB5.bits1 (fun HT_ HW_ => ?_)
 generalize w6.drew = w7 at BK322 BK323 HB hHeld ⊢
 refine qBF (i := 0) (N := some 3) (bs 15 1) ?_
 refine qBF (i := 3) (N := some 6) (bs 15 9) ?_
 refine qBF (i := 6) (N := some 9) (bs 15 73) ?_
 refine qDT (i := 1) (N := some 4) (bs 15 75) ?_
 refine qDT (i := 4) (N := some 7) (bs 15 91) ?_
 refine qDT (i := 7) (N := some 10) (bs 15 219) ?_
 refine one_ (i := 2) (N := some 5) (bs 15 223) rfl rfl (qCR HT_.out (by kernel_rfl)) (by decide) (fun K hK => ?_)
 refine qEO Tryz.func148 (by kernel_rfl) rfl #[.slice A0_2 l0_2.length c0_2] (by rfl) rfl rfl (by (try simp only [List.map_toArray, List.map_cons, List.map_nil]); first | done | rfl | (simp only [List.length_drop, List.length_take]; rfl)) ?_
 with_reducible refine (qC5.calls k _ _ l0_2 t324 _ ?side1 ?side2 A2.out).mono ?_
 (case side1 => repeat (first | exact (Kd.qAE HR0_2.out HB.out) | refine sC ?_))
 (case side2 => exact HC0_2.out)
 rintro e w8 ⟨v325, rfl, ho0, hb⟩
 refine ⟨_, rfl, ?_⟩
 have HO326 := qA0.mk (Kd.qF6 ho0 (qAI zb))
 replace BK322 := qA0.mk (qAL (zk BK322) hb)
 replace BK323 := qA0.mk (qAL (zk BK323) hb)
 replace HB := qA0.mk (qBZ zb hb)
 (try clear hb)
 (try clear hb2)
 (try clear hk)
 (try clear hi)
 (try clear ho0)
 refine hK.out _ _ ⟨(qA1 BK322.out 0).trans rfl, (qA1 BK322.out 1).trans rfl, (qA1 BK322.out 2).trans rfl, (qA1 BK322.out 3).trans rfl, (qA1 BK322.out 4).trans rfl, (qA1 BK322.out 5).trans rfl⟩ (fun hHeld => ?_)
 clear hK K
 refine qEB ?_
 refine qBF (i := 9) (N := some 12) (bs 15 735) ?_
 refine one_ (i := 5) (N := some 8) (bs 15 767) rfl rfl (qCR HT_.out (by kernel_rfl)) (by decide) (fun K hK => ?_)
 refine qEO Tryz.func148 (by kernel_rfl) rfl #[.slice A0_3 l0_3.length c0_3] (by rfl) rfl rfl (by (try simp only [List.map_toArray, List.map_cons, List.map_nil]); first | done | rfl | (simp only [List.length_drop, List.length_take]; rfl)) ?_
 with_reducible refine (qC5.calls k _ _ l0_3 t327 _ ?side1 ?side2 A3.out).mono ?_
 (case side1 => repeat (first | exact (Kd.qAE HR0_3.out HB.out) | refine sC ?_))
 (case side2 => exact HC0_3.out)
 rintro e w9 ⟨v328, rfl, ho0, hb⟩
 refine ⟨_, rfl, ?_⟩
 have HO329 := qA0.mk (Kd.qF6 (Kd.S_new' ho0 (Kd.S_lt (by (with_reducible repeat refine sS ?_); exact HO326.out))) (qAI zb))
 replace HO326 := qA0.mk (Kd.S_elder' (by (with_reducible repeat refine sS ?_); exact HO326.out) (Kd.S_base ho0) hb)
 replace BK322 := qA0.mk (qAL (zk BK322) hb)
 replace BK323 := qA0.mk (qAL (zk BK323) hb)
 replace HB := qA0.mk (qBZ zb hb)
 (try clear hb)
 (try clear hb2)
 (try clear hk)
 (try clear hi)
 (try clear ho0)
 refine hK.out _ _ ⟨(qA1 BK322.out 0).trans rfl, (qA1 BK322.out 1).trans rfl, (qA1 BK322.out 2).trans rfl, (qA1 BK322.out 3).trans rfl, (qA1 BK322.out 4).trans rfl, (qA1 BK322.out 5).trans rfl⟩ (fun hHeld => ?_)
 clear hK K
 refine qEB ?_
 refine one_ (i := 8) (N := some 11) (bs 15 1023) rfl rfl (qCR HT_.out (by kernel_rfl)) (by decide) (fun K hK => ?_)
 refine qEO Tryz.func149 (by kernel_rfl) rfl #[.slice A0_4 l0_4.length c0_4] (by rfl) rfl rfl (by (try simp only [List.map_toArray, List.map_cons, List.map_nil]); first | done | rfl | (simp only [List.length_drop, List.length_take]; rfl)) ?_
 with_reducible refine (qCA.calls _ _ l0_4 t330 _ ?side1 ?side2 A4.out).mono ?_
 (case side1 => repeat (first | exact (Kd.qAE HR0_4.out HB.out) | refine sC ?_))
 (case side2 => exact HC0_4.out)
 rintro e w10 ⟨v331, rfl, ho0, hb⟩
 refine ⟨_, rfl, ?_⟩
 have HO332 := qA0.mk (Kd.qCI ho0 (qAI zb))
 replace HO326 := qA0.mk (Kd.qDY (by (with_reducible repeat refine sS ?_); exact HO326.out) hb)
 replace HO329 := qA0.mk (Kd.qDY (by (with_reducible repeat refine sS ?_); exact HO329.out) hb)
 replace BK322 := qA0.mk (qAL (zk BK322) hb)
 replace BK323 := qA0.mk (qAL (zk BK323) hb)
 replace HB := qA0.mk (qBZ zb hb)
 (try clear hb)
 (try clear hb2)
 (try clear hk)
 (try clear hi)
 (try clear ho0)
 obtain ⟨Ao11, co11, eo11⟩ := Kd.qF5 HO326.out
 (first | subst eo11 | (injection eo11 with f1_ f2_ f3_; have f4_ := f1_.symm; have f5_ := f3_.symm; clear f1_ f2_ f3_; subst f4_; subst f5_))
 obtain ⟨Ao13, co13, eo13⟩ := Kd.qF5 HO329.out
 (first | subst eo13 | (injection eo13 with f1_ f2_ f3_; have f4_ := f1_.symm; have f5_ := f3_.symm; clear f1_ f2_ f3_; subst f4_; subst f5_))
 obtain ⟨Ao15, co15, eo15⟩ := Kd.qBV HO332.out
 (first | subst eo15 | (injection eo15 with f1_ f2_ f3_; have f4_ := f1_.symm; have f5_ := f3_.symm; clear f1_ f2_ f3_; subst f4_; subst f5_))
 refine hK.out _ _ ⟨(qA1 BK322.out 0).trans rfl, (qA1 BK322.out 1).trans rfl, (qA1 BK322.out 2).trans rfl, (qA1 BK322.out 3).trans rfl, (qA1 BK322.out 4).trans rfl, (qA1 BK322.out 5).trans rfl⟩ (fun hHeld => ?_)
 clear hK K
 refine qEB ?_
 refine last_ (i := 10) (N := none) (bs 15 2047) rfl rfl (qCR HT_.out (by kernel_rfl)) (by decide) (fun K hK => ?_)
 have hs12 : w10.cell? ⟨gb322, 2, none⟩ = some (.slice A0_2 l0_2.length c0_2) := (qA1 BK322.out 2).trans rfl
 have hfs12 := qB1 BK322.out 2
 have hns12_1 := NB323_322.out
 have hms12_1 := NB322_323.out
 refine skip_ (w1 := ?_) (by rfl) rfl ?_ ?_
 rotate_left
 ·go_simp
  rfl
 refine hK.out _ _ ?_
 clear hK K
 refine qBF (i := 11) (N := some 13) (bs 15 4095) ?_
 refine last_ (i := 12) (N := none) (bs 15 8191) rfl rfl (qCR HT_.out (by kernel_rfl)) (by decide) (fun K hK => ?_)
 have hs14 : w10.cell? ⟨gb322, 3, none⟩ = some (.slice A0_3 l0_3.length c0_3) := (qA1 BK322.out 3).trans rfl
 have hfs14 := qB1 BK322.out 3
 have hns14_1 := NB323_322.out
 have hms14_1 := NB322_323.out
 refine skip_ (w1 := ?_) (by rfl) rfl ?_ ?_
 rotate_left
 ·go_simp
  rfl
 refine hK.out _ _ ?_
 clear hK K
 refine qBF (i := 13) (N := some 14) (bs 15 16383) ?_
 refine last_ (i := 14) (N := none) (bs 15 32767) rfl rfl (qCR HT_.out (by kernel_rfl)) (by decide) (fun K hK => ?_)
 have hs16 : w10.cell? ⟨gb322, 4, none⟩ = some (.slice A0_4 l0_4.length c0_4) := (qA1 BK322.out 4).trans rfl
 have hfs16 := qB1 BK322.out 4
 have hns16_1 := NB323_322.out
 have hms16_1 := NB322_323.out
 refine skip_ (w1 := ?_) (by rfl) rfl ?_ ?_
 rotate_left
 ·go_simp
  rfl
 refine hK.out _ _ ?_
 clear hK K
 refine qF9 (qDX HT_.out (by kernel_rfl)) ?_
 have hnb17 := NB322_323.out
 have hnc17 := NB323_322.out
 obtain ⟨hcz18_0, hcz18_1, hcz18_2, hcz18_3, hcz18_4, hcz18_5, hfz18_0, hfz18_1, hfz18_2, hfz18_3, hfz18_4, hfz18_5⟩ := bc6 BK322.out
 obtain ⟨hcz19_0, hcz19_1, hcz19_2, hcz19_3, hcz19_4, hcz19_5, hfz19_0, hfz19_1, hfz19_2, hfz19_3, hfz19_4, hfz19_5⟩ := bc6 BK323.out
 try go_wp2
 refine bodyPost_ret (results_cell_row rfl _ _ gb323 72 #[.string a0_0, .string a0_1, .slice Ao11 t324.length co11, .slice Ao13 t327.length co13, .slice Ao15 t330.length co15, .int .i64 a0_5] (0, 0) _ rfl (by refine zp_ (cs := #[.string a0_0, .string a0_1, .slice Ao11 t324.length co11, .slice Ao13 t327.length co13, .slice Ao15 t330.length co15, .int .i64 0]) ?_ 5; refine zp_ (cs := #[.string a0_0, .string a0_1, .slice Ao11 t324.length co11, .slice Ao13 t327.length co13, .slice none 0 0, .int .i64 0]) ?_ 4; refine zp_ (cs := #[.string a0_0, .string a0_1, .slice Ao11 t324.length co11, .slice none 0 0, .slice none 0 0, .int .i64 0]) ?_ 3; refine zp_ (cs := #[.string a0_0, .string a0_1, .slice none 0 0, .slice none 0 0, .slice none 0 0, .int .i64 0]) ?_ 2; (with_reducible repeat refine st ?_); refine qD0 (cs := #[.string a0_0, .string (⟨#[]⟩ : ByteArray), .slice none 0 0, .slice none 0 0, .slice none 0 0, .int .i64 0]) ?_ 1 _ rfl; (with_reducible repeat refine st ?_); refine qD0 (cs := #[.string (⟨#[]⟩ : ByteArray), .string (⟨#[]⟩ : ByteArray), .slice none 0 0, .slice none 0 0, .slice none 0 0, .int .i64 0]) ?_ 0 _ rfl; refine zf_ ?_ NB323_322; refine zf_ ?_ NB323_322; refine zf_ ?_ NB323_322; (with_reducible repeat refine st ?_); exact BK323.out) Tryz.underlying72 rfl (by kernel_rfl)) rfl ?_
 exact ⟨_, _, _, zf, by (with_reducible repeat refine sS ?_); exact Kd.qDQ (Kd.qCH (Kd.qCH (Kd.qCH (Kd.qCH (Kd.qCH (Kd.qCH (Kd.qCH (Kd.qCH (Kd.qCH (Kd.qEJ (Kd.qEJ HO326.out BK322.out (by decide)) BK323.out (by decide)) (fun _ hk => hk.1.2) _) (fun _ hk => hk.1.2) _) (fun _ hk => hk.1.2) _) (fun _ hk => hk.2) _) (fun _ hk => hk.2) _) (fun _ hk => hk.2) _) (fun _ hk => hk.2) _) (fun _ hk => hk.2) _) (fun _ hk => hk.2) _) (fun _ hk => hk.1.1.2), by (with_reducible repeat refine sS ?_); exact Kd.qDQ (Kd.qCH (Kd.qCH (Kd.qCH (Kd.qCH (Kd.qCH (Kd.qCH (Kd.qCH (Kd.qCH (Kd.qCH (Kd.qEJ (Kd.qEJ HO329.out BK322.out (by decide)) BK323.out (by decide)) (fun _ hk => hk.1.2) _) (fun _ hk => hk.1.2) _) (fun _ hk => hk.1.2) _) (fun _ hk => hk.2) _) (fun _ hk => hk.2) _) (fun _ hk => hk.2) _) (fun _ hk => hk.2) _) (fun _ hk => hk.2) _) (fun _ hk => hk.2) _) (fun _ hk => hk.1.1.2), by (with_reducible repeat refine sR ?_); exact Kd.qB7 (Kd.qAW (Kd.qAW (Kd.qAW (Kd.qAW (Kd.qAW (Kd.qAW (Kd.qAW (Kd.qAW (Kd.qAW (Kd.qBG (Kd.qBG HO332.out BK322.out (by decide)) BK323.out (by decide)) (fun _ hk => hk.1.2) _) (fun _ hk => hk.1.2) _) (fun _ hk => hk.1.2) _) (fun _ hk => hk.2) _) (fun _ hk => hk.2) _) (fun _ hk => hk.2) _) (fun _ hk => hk.2) _) (fun _ hk => hk.2) _) (fun _ hk => hk.2) _) (fun _ hk => trivial), zb⟩
mutual
def qAS.l0 : Nat → List (S76) → Int → Int → ByteArray → ByteArray → Option (ByteArray × ByteArray × (List (S66)) × (List (S66)) × (List (S114)) × Int × Bool)
 | 0, _, _, _, _, _ => none
 | k + 1, x10, x11, x12, x334000, x334001 => if x12 < x11 then (if 0 ≤ x12 then (if x12 < (x10.length : Int) then (qAS.l1 k x10 x11 x12 ((qAB x10 x12).f5) (((qAB x10 x12).f5).length : Int) 0 x334000 x334001 ((qAB x10 x12).f0) ((qAB x10 x12).f1) ((qAB x10 x12).f2) ((qAB x10 x12).f3) ((qAB x10 x12).f4) ((qAB x10 x12).f5)) else (none)) else (none)) else (some ((⟨#[]⟩ : ByteArray), (⟨#[]⟩ : ByteArray), ([] : List (S66)), ([] : List (S66)), ([] : List (S114)), 0, false))
def qAS.l1 : Nat → List (S76) → Int → Int → List (S72) → Int → Int → ByteArray → ByteArray → ByteArray → Int → Int → List (S60) → List (S95) → List (S72) → Option (ByteArray × ByteArray × (List (S66)) × (List (S66)) × (List (S114)) × Int × Bool)
 | 0, _, _, _, _, _, _, _, _, _, _, _, _, _, _ => none
 | k + 1, x10, x11, x12, x17, x18, x19, x334000, x334001, x337000, x337001, x337002, x337003, x337004, x337005 => if x19 < x18 then (if 0 ≤ x19 then (if x19 < (x17.length : Int) then (if x337000.toList = x334000.toList then (if ((qCE x17 x19).f0).toList = x334001.toList then ((qB5.f k ((qCE x17 x19).f0) ((qCE x17 x19).f1) ((qCE x17 x19).f2) ((qCE x17 x19).f3) ((qCE x17 x19).f4) ((qCE x17 x19).f5)).bind fun bt339 => (some (bt339.1, bt339.2.1, bt339.2.2.1, bt339.2.2.2.1, bt339.2.2.2.2.1, bt339.2.2.2.2.2, true))) else (qAS.l1 k x10 x11 x12 x17 x18 (wrap64 (x19 + 1)) x334000 x334001 x337000 x337001 x337002 x337003 x337004 x337005)) else (qAS.l1 k x10 x11 x12 x17 x18 (wrap64 (x19 + 1)) x334000 x334001 x337000 x337001 x337002 x337003 x337004 x337005)) else (none)) else (none)) else (qAS.l0 k x10 x11 (wrap64 (x12 + 1)) x334000 x334001)
end
def qAS.f (k : Nat) (l0 : List (S76)) (a1_0 : ByteArray) (a1_1 : ByteArray) : Option (ByteArray × ByteArray × (List (S66)) × (List (S66)) × (List (S114)) × Int × Bool) := qAS.l0 k l0 (l0.length : Int) 0 a1_0 a1_1
theorem qAS.qC6 : ∀ k, (∀ y0 y1 y2 y3 y4, LeO (qAS.l0 k y0 y1 y2 y3 y4) (qAS.l0 (k + 1) y0 y1 y2 y3 y4)) ∧ (∀ y0 y1 y2 y3 y4 y5 y6 y7 y8 y9 y10 y11 y12 y13, LeO (qAS.l1 k y0 y1 y2 y3 y4 y5 y6 y7 y8 y9 y10 y11 y12 y13) (qAS.l1 (k + 1) y0 y1 y2 y3 y4 y5 y6 y7 y8 y9 y10 y11 y12 y13))
 | 0 => ⟨fun _ _ _ _ _ r h => by simp [qAS.l0] at h, fun _ _ _ _ _ _ _ _ _ _ _ _ _ _ r h => by simp [qAS.l1] at h⟩
 | k + 1 => by
  obtain ⟨ih0, ih1⟩ := qAS.qC6 k
  refine ⟨?_, ?_⟩
  ·intro y0 y1 y2 y3 y4
   unfold qAS.l0
   have im0 := @qB5.mono
   exact zm
  ·intro y0 y1 y2 y3 y4 y5 y6 y7 y8 y9 y10 y11 y12 y13
   unfold qAS.l1
   have im0 := @qB5.mono
   exact zm
theorem qAS.mono : ∀ a0 a1 a2 k, LeO (qAS.f k a0 a1 a2) (qAS.f (k + 1) a0 a1 a2) := by
 intro a0 a1 a2 k
 obtain ⟨ih0, ih1⟩ := qAS.qC6 k
 unfold qAS.f
 have im0 := @qB5.mono
 exact zm
set_option maxHeartbeats 8000000 in
set_option maxRecDepth 100000 in
theorem qAS.calls (k : Nat) (A0 : Option Addr) (c0 : Nat) (l0 : List (S76)) (a1_0 : ByteArray) (a1_1 : ByteArray) (r1 : ByteArray) (r2 : ByteArray) (r3 : List (S66)) (r4 : List (S66)) (r5 : List (S114)) (r6 : Int) (r7 : Bool) (w : World) (hr0 : Kd.C k76 w A0 l0.length l0) (hc0 : l0.length ≤ c0) (h : qAS.f k l0 a1_0 a1_1 = some (r1, r2, r3, r4, r5, r6, r7)) :
  Calls Tryz.prog 76 #[.slice A0 l0.length c0, .agg #[.string a1_0, .string a1_1]] w fun e w' => ∃ v2_ v3_ v4_ : Value, e = .returned (.tuple #[.agg #[.string r1, .string r2, v2_, v3_, v4_, .int .i64 r6], .bool r7]) ∧ Kd.S k66 66 w' w.heap.size (fun k_ => some k_ ≠ (v3_ : Value).ownBlock) v2_ r3 ∧ Kd.S k66 66 w' w.heap.size (fun k_ => some k_ ≠ (v2_ : Value).ownBlock) v3_ r4 ∧ Kd.R k114 114 w' w.heap.size (fun _ => True) v4_ r5 ∧ Below w.heap.size w w' := by
 have hu114 := Tryz.underlying114
 have hu72 := Tryz.underlying72
 have hu76 := Tryz.underlying76
 have HR0 := qA0.mk hr0
 have HC0 := qA0.mk hc0
 clear hr0 hc0
 have HB := qA0.mk (Below.refl w.heap.size w)
 have H : (qAS.l0 k l0 (l0.length : Int) 0 a1_0 a1_1) = some (r1, r2, r3, r4, r5, r6, r7) := h
 clear h
 have H' := qA0.mk H
 clear H
 go_enter Tryz.func76, Tryz.ntmps76
 go_wp2_with (first | ((with_reducible refine qA9 (N := 3) rfl ?_); refine box_event ?hg (N := 3) ?hd (cs := #[.string a1_0, .string a1_1]) (t := 114) ?hr ?_; (case hd => rfl); (case hg => rfl); (case hr => first | (go_simp; done) | (go_simp; rfl)); intro gb333 hg w3 hbox hb; have BK333 := qA0.mk (hbox); have GW333 := zg w gb333; have GE333 := zg w gb333; replace HB := qA0.mk (qBZ zb hb); clear hb hbox hg) | ((with_reducible refine qA9 (N := 4) rfl ?_); refine box_event ?hg (N := 4) ?hd (cs := #[.string (⟨#[]⟩ : ByteArray), .string (⟨#[]⟩ : ByteArray), .slice none 0 0, .slice none 0 0, .slice none 0 0, .int .i64 0]) (t := 72) ?hr ?_; (case hd => rfl); (case hg => rfl); (case hr => first | (go_simp; done) | (go_simp; rfl)); intro gb334 hg w4 hbox hb; have BK334 := qA0.mk (hbox); have GW334 := zg w gb334; have GE334 := zg w gb334; have NB333_334 := zl BK333 gb334; have NB334_333 := zu BK333 gb334; replace BK333 := qA0.mk (qAL (zk BK333) hb); replace HB := qA0.mk (qBZ zb hb); clear hb hbox hg))
 go_loopg [12] k (fun kq v12 w' => ∃ (x12_1 : Int) (x335000_1 : ByteArray) (x335001_1 : ByteArray) (x335005_1 : Int), v12 = .int .i64 x12_1 ∧ qA0 (qAS.l0 kq l0 (l0.length : Int) x12_1 a1_0 a1_1 = some (r1, r2, r3, r4, r5, r6, r7)) ∧ qA0 (kq ≤ k) ∧ qA0 (w'.heap[gb333]? = some (.cells #[.string a1_0, .string a1_1] 114 (0, 0))) ∧ qA0 (w'.heap[gb334]? = some (.cells #[.string x335000_1, .string x335001_1, (.slice none 0 0), (.slice none 0 0), (.slice none 0 0), .int .i64 x335005_1] 72 (0, 0))) ∧ qA0 (Below w.heap.size w w'))
 case atStart => exact ⟨(0), ((⟨#[]⟩ : ByteArray)), ((⟨#[]⟩ : ByteArray)), (0), zs, H', ⟨Nat.le_refl _⟩, ⟨zk BK333⟩, ⟨zk BK334⟩, ⟨zb⟩⟩
 clear H'
 obtain ⟨x12_1, x335000_1, x335001_1, x335005_1, rfl, HA, HK1, BK333, BK334, HB⟩ := hrel
 obtain _ | k1 := gk
 ·exact absurd HA.out (by simp [qAS.l0])
 have H := HA.out
 clear HA
 simp only [qAS.l0] at H
 by_cases c5 : x12_1 < (l0.length : Int)
 rotate_left
 ·rw [if_neg c5] at H
  have c5b0 := decide_eq_false c5
  clear c5
  simp only [Option.some.injEq, Prod.mk.injEq] at H
  obtain ⟨rfl, rfl, rfl, rfl, rfl, rfl, rfl⟩ := H
  have hnb53 := NB334_333.out
  have hnc53 := NB333_334.out
  obtain ⟨hcz54_0, hcz54_1, hcz54_2, hcz54_3, hcz54_4, hcz54_5, hfz54_0, hfz54_1, hfz54_2, hfz54_3, hfz54_4, hfz54_5⟩ := bc6 BK334.out
  go_wp2
  refine bodyPost_ret (qDN rfl _ _ gb334 72 #[.string (⟨#[]⟩ : ByteArray), .string (⟨#[]⟩ : ByteArray), .slice none 0 0, .slice none 0 0, .slice none 0 0, .int .i64 0] (0, 0) _ rfl (by (with_reducible repeat refine st ?_); refine qD0 (cs := #[.string (⟨#[]⟩ : ByteArray), .string (⟨#[]⟩ : ByteArray), .slice none 0 0, .slice none 0 0, .slice none 0 0, .int .i64 x335005_1]) ?_ 5 _ rfl; (with_reducible repeat refine st ?_); refine qD0 (cs := #[.string (⟨#[]⟩ : ByteArray), .string (⟨#[]⟩ : ByteArray), .slice none 0 0, .slice none 0 0, .slice none 0 0, .int .i64 x335005_1]) ?_ 4 _ rfl; (with_reducible repeat refine st ?_); refine qD0 (cs := #[.string (⟨#[]⟩ : ByteArray), .string (⟨#[]⟩ : ByteArray), .slice none 0 0, .slice none 0 0, .slice none 0 0, .int .i64 x335005_1]) ?_ 3 _ rfl; (with_reducible repeat refine st ?_); refine qD0 (cs := #[.string (⟨#[]⟩ : ByteArray), .string (⟨#[]⟩ : ByteArray), .slice none 0 0, .slice none 0 0, .slice none 0 0, .int .i64 x335005_1]) ?_ 2 _ rfl; (with_reducible repeat refine st ?_); refine qD0 (cs := #[.string (⟨#[]⟩ : ByteArray), .string x335001_1, .slice none 0 0, .slice none 0 0, .slice none 0 0, .int .i64 x335005_1]) ?_ 1 _ rfl; refine zp_ (cs := #[.string x335000_1, .string x335001_1, .slice none 0 0, .slice none 0 0, .slice none 0 0, .int .i64 x335005_1]) ?_ 0; (with_reducible repeat refine st ?_); exact BK334.out) Tryz.underlying72 rfl (by kernel_rfl)) rfl ?_
  exact ⟨_, _, _, zf, by first | exact Kd.qFB _ _ _ _ _ | exact Kd.N_nil _ _ _ _ _ | exact Kd.qF4 _ _ _ _ _ | exact Kd.Q_nil _ _ _ _ _ | exact Kd.qEM _ _ _ _ _, by first | exact Kd.qFB _ _ _ _ _ | exact Kd.N_nil _ _ _ _ _ | exact Kd.qF4 _ _ _ _ _ | exact Kd.Q_nil _ _ _ _ _ | exact Kd.qEM _ _ _ _ _, by first | exact Kd.qEM _ _ _ _ _ | exact Kd.N_nil _ _ _ _ _ | exact Kd.qF4 _ _ _ _ _ | exact Kd.Q_nil _ _ _ _ _ | exact Kd.qFB _ _ _ _ _, zb⟩
 rw [if_pos c5] at H
 have c5b0 := decide_eq_true c5
 clear c5
 by_cases c6 : 0 ≤ x12_1
 rotate_left
 ·rw [if_neg c6] at H
  exact absurd H (by simp)
 rw [if_pos c6] at H
 have c6b0 := decide_eq_true c6
 clear c6
 by_cases c7 : x12_1 < (l0.length : Int)
 rotate_left
 ·rw [if_neg c7] at H
  exact absurd H (by simp)
 rw [if_pos c7] at H
 have c7b0 := decide_eq_true c7
 clear c7
 have H' := qA0.mk H
 clear H
 have p335 : 0 ≤ (x12_1 : Int) := zd
 have q335 : x12_1 < (l0.length : Int) := zd
 obtain ⟨ad335, A335_3, c335_3, A335_4, c335_4, A335_5, c335_5, e335, hx335_0, hx335_1, hx335_2, hx335_3, hx335_4, hx335_5, hl335_3, hi335_3, hl335_4, hi335_4, hl335_5, hi335_5⟩ := at_T76 HR0.out x12_1 p335 q335
 cases e335
 (try replace hx335_0 := zh hx335_0)
 replace hx335_1 := zh hx335_1
 replace hx335_2 := zh hx335_2
 replace hx335_3 := zh hx335_3
 replace hx335_4 := zh hx335_4
 replace hx335_5 := zh hx335_5
 have HR335_3 := qA0.mk hi335_3
 have HC335_3 := qA0.mk hl335_3
 clear hi335_3 hl335_3
 have HR335_4 := qA0.mk hi335_4
 have HC335_4 := qA0.mk hl335_4
 clear hi335_4 hl335_4
 have HR335_5 := qA0.mk hi335_5
 have HC335_5 := qA0.mk hl335_5
 clear hi335_5 hl335_5
 replace p335 := eq_true p335
 replace q335 := eq_true q335
 go_wp2_with (((with_reducible refine qA9 (N := 7) rfl ?_); refine box_event ?hg (N := 7) ?hd (cs := #[.string (⟨#[]⟩ : ByteArray), .int .i64 0, .int .i64 0, .slice none 0 0, .slice none 0 0, .slice none 0 0]) (t := 76) ?hr ?_; (case hd => rfl); (case hg => rfl); (case hr => first | (go_simp; done) | (go_simp; rfl)); intro gb336 hg w8 hbox hb; have BK336 := qA0.mk (hbox); have GW336 := zg w gb336; have GE336 := zg w gb336; have NB333_336 := zl BK333 gb336; have NB336_333 := zu BK333 gb336; have NB334_336 := zl BK334 gb336; have NB336_334 := zu BK334 gb336; replace BK333 := qA0.mk (qAL (zk BK333) hb); replace BK334 := qA0.mk (qAL (zk BK334) hb); replace HB := qA0.mk (qBZ zb hb); clear hb hbox hg; have hnb9 := NB336_333.out; have hnc9 := NB333_336.out; have hnb10 := NB336_334.out; have hnc10 := NB334_336.out; obtain ⟨hcz11_0, hcz11_1, hcz11_2, hcz11_3, hcz11_4, hcz11_5, hfz11_0, hfz11_1, hfz11_2, hfz11_3, hfz11_4, hfz11_5⟩ := bc6 BK336.out))
 go_loopg [19] k1 (fun kq v19 w' => ∃ (x19_2 : Int) (x335000_2 : ByteArray) (x335001_2 : ByteArray) (x335005_2 : Int), v19 = .int .i64 x19_2 ∧ qA0 (qAS.l1 kq l0 (l0.length : Int) x12_1 ((qAB l0 x12_1).f5) (((qAB l0 x12_1).f5).length : Int) x19_2 a1_0 a1_1 ((qAB l0 x12_1).f0) ((qAB l0 x12_1).f1) ((qAB l0 x12_1).f2) ((qAB l0 x12_1).f3) ((qAB l0 x12_1).f4) ((qAB l0 x12_1).f5) = some (r1, r2, r3, r4, r5, r6, r7)) ∧ qA0 (kq ≤ k1) ∧ qA0 (w'.heap[gb333]? = some (.cells #[.string a1_0, .string a1_1] 114 (0, 0))) ∧ qA0 (w'.heap[gb334]? = some (.cells #[.string x335000_2, .string x335001_2, (.slice none 0 0), (.slice none 0 0), (.slice none 0 0), .int .i64 x335005_2] 72 (0, 0))) ∧ qA0 (w'.heap[gb336]? = some (.cells #[.string ((qAB l0 x12_1).f0), .int .i64 ((qAB l0 x12_1).f1), .int .i64 ((qAB l0 x12_1).f2), (.slice A335_3 ((qAB l0 x12_1).f3).length c335_3), (.slice A335_4 ((qAB l0 x12_1).f4).length c335_4), (.slice A335_5 ((qAB l0 x12_1).f5).length c335_5)] 76 (0, 0))) ∧ qA0 (Below w.heap.size w w'))
 case atStart => exact ⟨(0), (x335000_1), (x335001_1), (x335005_1), zs, H', ⟨Nat.le_refl _⟩, ⟨by refine zf_ ?_ NB333_336; refine zf_ ?_ NB333_336; refine zf_ ?_ NB333_336; refine zf_ ?_ NB333_336; refine zf_ ?_ NB333_336; refine zf_ ?_ NB333_336; (with_reducible repeat refine st ?_); exact BK333.out⟩, ⟨by refine zf_ ?_ NB334_336; refine zf_ ?_ NB334_336; refine zf_ ?_ NB334_336; refine zf_ ?_ NB334_336; refine zf_ ?_ NB334_336; refine zf_ ?_ NB334_336; (with_reducible repeat refine st ?_); exact BK334.out⟩, ⟨by refine zp_ (cs := #[.string ((qAB l0 x12_1).f0), .int .i64 ((qAB l0 x12_1).f1), .int .i64 ((qAB l0 x12_1).f2), .slice A335_3 ((qAB l0 x12_1).f3).length c335_3, .slice A335_4 ((qAB l0 x12_1).f4).length c335_4, .slice none 0 0]) ?_ 5; refine zp_ (cs := #[.string ((qAB l0 x12_1).f0), .int .i64 ((qAB l0 x12_1).f1), .int .i64 ((qAB l0 x12_1).f2), .slice A335_3 ((qAB l0 x12_1).f3).length c335_3, .slice none 0 0, .slice none 0 0]) ?_ 4; refine zp_ (cs := #[.string ((qAB l0 x12_1).f0), .int .i64 ((qAB l0 x12_1).f1), .int .i64 ((qAB l0 x12_1).f2), .slice none 0 0, .slice none 0 0, .slice none 0 0]) ?_ 3; refine zp_ (cs := #[.string ((qAB l0 x12_1).f0), .int .i64 ((qAB l0 x12_1).f1), .int .i64 0, .slice none 0 0, .slice none 0 0, .slice none 0 0]) ?_ 2; refine zp_ (cs := #[.string ((qAB l0 x12_1).f0), .int .i64 0, .int .i64 0, .slice none 0 0, .slice none 0 0, .slice none 0 0]) ?_ 1; (with_reducible repeat refine st ?_); refine qD0 (cs := #[.string (⟨#[]⟩ : ByteArray), .int .i64 0, .int .i64 0, .slice none 0 0, .slice none 0 0, .slice none 0 0]) ?_ 0 _ rfl; (with_reducible repeat refine st ?_); exact BK336.out⟩, ⟨zb⟩⟩
 clear H' c5b0 c6b0 c7b0 hcz11_0 hcz11_1 hcz11_2 hcz11_3 hcz11_4 hcz11_5 hfz11_0 hfz11_1 hfz11_2 hfz11_3 hfz11_4 hfz11_5 hx335_0 hx335_1 hx335_2 hx335_3 hx335_4 hx335_5 p335 q335
 obtain ⟨x19_2, x335000_2, x335001_2, x335005_2, rfl, HA, HK2, BK333, BK334, BK336, HB⟩ := hrel
 obtain _ | k2 := gk
 ·exact absurd HA.out (by simp [qAS.l1])
 have H := HA.out
 clear HA
 simp only [qAS.l1] at H
 by_cases c12 : x19_2 < (((qAB l0 x12_1).f5).length : Int)
 rotate_left
 ·rw [if_neg c12] at H
  have c12b0 := decide_eq_false c12
  clear c12
  have H' := qA0.mk H
  clear H
  go_wp2
  go_roundg k2
  case measure => have := HK1.out; have := HK2.out; omega
  case rel => exact ⟨(wrap64 (x12_1 + 1)), (x335000_2), (x335001_2), (x335005_2), zs, H', ⟨by have := HK1.out; have := HK2.out; omega⟩, ⟨zk BK333⟩, ⟨zk BK334⟩, ⟨zb⟩⟩
 rw [if_pos c12] at H
 have c12b0 := decide_eq_true c12
 clear c12
 by_cases c13 : 0 ≤ x19_2
 rotate_left
 ·rw [if_neg c13] at H
  exact absurd H (by simp)
 rw [if_pos c13] at H
 have c13b0 := decide_eq_true c13
 clear c13
 by_cases c14 : x19_2 < (((qAB l0 x12_1).f5).length : Int)
 rotate_left
 ·rw [if_neg c14] at H
  exact absurd H (by simp)
 rw [if_pos c14] at H
 have c14b0 := decide_eq_true c14
 clear c14
 by_cases c15 : ((qAB l0 x12_1).f0).toList = a1_0.toList
 rotate_left
 ·rw [if_neg c15] at H
  have ⟨c15b0, c15b1⟩ := zn c15
  have H' := qA0.mk H
  clear H
  have p337 : 0 ≤ (x19_2 : Int) := zd
  have q337 : x19_2 < (((qAB l0 x12_1).f5).length : Int) := zd
  obtain ⟨ad337, A337_2, c337_2, A337_3, c337_3, A337_4, c337_4, e337, hx337_0, hx337_1, hx337_2, hx337_3, hx337_4, hx337_5, hl337_2, hi337_2, hl337_3, hi337_3, hl337_4, hi337_4⟩ := at_T72 HR335_5.out x19_2 p337 q337
  cases e337
  (try replace hx337_0 := zh hx337_0)
  replace hx337_1 := zh hx337_1
  replace hx337_2 := zh hx337_2
  replace hx337_3 := zh hx337_3
  replace hx337_4 := zh hx337_4
  replace hx337_5 := zh hx337_5
  have HR337_2 := qA0.mk hi337_2
  have HC337_2 := qA0.mk hl337_2
  clear hi337_2 hl337_2
  have HR337_3 := qA0.mk hi337_3
  have HC337_3 := qA0.mk hl337_3
  clear hi337_3 hl337_3
  have HR337_4 := qA0.mk hi337_4
  have HC337_4 := qA0.mk hl337_4
  clear hi337_4 hl337_4
  replace p337 := eq_true p337
  replace q337 := eq_true q337
  go_wp2_with (((with_reducible refine qA9 (N := 9) rfl ?_); refine box_event ?hg (N := 9) ?hd (cs := #[.string (⟨#[]⟩ : ByteArray), .string (⟨#[]⟩ : ByteArray), .slice none 0 0, .slice none 0 0, .slice none 0 0, .int .i64 0]) (t := 72) ?hr ?_; (case hd => rfl); (case hg => rfl); (case hr => first | (go_simp; done) | (go_simp; rfl)); intro gb338 hg w43 hbox hb; have BK338 := qA0.mk (hbox); have GW338 := zg w gb338; have GE338 := zg w gb338; have NB333_338 := zl BK333 gb338; have NB338_333 := zu BK333 gb338; have NB334_338 := zl BK334 gb338; have NB338_334 := zu BK334 gb338; have NB336_338 := zl BK336 gb338; have NB338_336 := zu BK336 gb338; replace BK333 := qA0.mk (qAL (zk BK333) hb); replace BK334 := qA0.mk (qAL (zk BK334) hb); replace BK336 := qA0.mk (qAL (zk BK336) hb); replace HB := qA0.mk (qBZ zb hb); clear hb hbox hg; have hnb44 := NB338_333.out; have hnc44 := NB333_338.out; have hnb45 := NB338_334.out; have hnc45 := NB334_338.out; have hnb46 := NB338_336.out; have hnc46 := NB336_338.out; obtain ⟨hcz47_0, hcz47_1, hcz47_2, hcz47_3, hcz47_4, hcz47_5, hfz47_0, hfz47_1, hfz47_2, hfz47_3, hfz47_4, hfz47_5⟩ := bc6 BK338.out; have hnb48 := NB336_333.out; have hnc48 := NB333_336.out; have hnb49 := NB336_334.out; have hnc49 := NB334_336.out; obtain ⟨hcz50_0, hcz50_1, hcz50_2, hcz50_3, hcz50_4, hcz50_5, hfz50_0, hfz50_1, hfz50_2, hfz50_3, hfz50_4, hfz50_5⟩ := bc6 BK336.out; have hnb51 := NB333_334.out; have hnc51 := NB334_333.out; obtain ⟨hcz52_0, hcz52_1, hfz52_0, hfz52_1⟩ := bc2 BK333.out))
  go_roundg k2
  case measure => have := HK1.out; have := HK2.out; omega
  case rel => exact ⟨(wrap64 (x19_2 + 1)), (x335000_2), (x335001_2), (x335005_2), zs, H', ⟨by have := HK1.out; have := HK2.out; omega⟩, ⟨by refine zf_ ?_ NB333_338; refine zf_ ?_ NB333_338; refine zf_ ?_ NB333_338; refine zf_ ?_ NB333_338; refine zf_ ?_ NB333_338; refine zf_ ?_ NB333_338; (with_reducible repeat refine st ?_); exact BK333.out⟩, ⟨by refine zf_ ?_ NB334_338; refine zf_ ?_ NB334_338; refine zf_ ?_ NB334_338; refine zf_ ?_ NB334_338; refine zf_ ?_ NB334_338; refine zf_ ?_ NB334_338; (with_reducible repeat refine st ?_); exact BK334.out⟩, ⟨by refine zf_ ?_ NB336_338; refine zf_ ?_ NB336_338; refine zf_ ?_ NB336_338; refine zf_ ?_ NB336_338; refine zf_ ?_ NB336_338; refine zf_ ?_ NB336_338; (with_reducible repeat refine st ?_); exact BK336.out⟩, ⟨zb⟩⟩
 rw [if_pos c15] at H
 have ⟨c15b0, c15b1⟩ := ze c15
 clear c15
 by_cases c16 : ((qCE ((qAB l0 x12_1).f5) x19_2).f0).toList = a1_1.toList
 rotate_left
 ·rw [if_neg c16] at H
  have ⟨c16b0, c16b1⟩ := zn c16
  have H' := qA0.mk H
  clear H
  have p337 : 0 ≤ (x19_2 : Int) := zd
  have q337 : x19_2 < (((qAB l0 x12_1).f5).length : Int) := zd
  obtain ⟨ad337, A337_2, c337_2, A337_3, c337_3, A337_4, c337_4, e337, hx337_0, hx337_1, hx337_2, hx337_3, hx337_4, hx337_5, hl337_2, hi337_2, hl337_3, hi337_3, hl337_4, hi337_4⟩ := at_T72 HR335_5.out x19_2 p337 q337
  cases e337
  (try replace hx337_0 := zh hx337_0)
  replace hx337_1 := zh hx337_1
  replace hx337_2 := zh hx337_2
  replace hx337_3 := zh hx337_3
  replace hx337_4 := zh hx337_4
  replace hx337_5 := zh hx337_5
  have HR337_2 := qA0.mk hi337_2
  have HC337_2 := qA0.mk hl337_2
  clear hi337_2 hl337_2
  have HR337_3 := qA0.mk hi337_3
  have HC337_3 := qA0.mk hl337_3
  clear hi337_3 hl337_3
  have HR337_4 := qA0.mk hi337_4
  have HC337_4 := qA0.mk hl337_4
  clear hi337_4 hl337_4
  replace p337 := eq_true p337
  replace q337 := eq_true q337
  go_wp2_with (((with_reducible refine qA9 (N := 9) rfl ?_); refine box_event ?hg (N := 9) ?hd (cs := #[.string (⟨#[]⟩ : ByteArray), .string (⟨#[]⟩ : ByteArray), .slice none 0 0, .slice none 0 0, .slice none 0 0, .int .i64 0]) (t := 72) ?hr ?_; (case hd => rfl); (case hg => rfl); (case hr => first | (go_simp; done) | (go_simp; rfl)); intro gb338 hg w33 hbox hb; have BK338 := qA0.mk (hbox); have GW338 := zg w gb338; have GE338 := zg w gb338; have NB333_338 := zl BK333 gb338; have NB338_333 := zu BK333 gb338; have NB334_338 := zl BK334 gb338; have NB338_334 := zu BK334 gb338; have NB336_338 := zl BK336 gb338; have NB338_336 := zu BK336 gb338; replace BK333 := qA0.mk (qAL (zk BK333) hb); replace BK334 := qA0.mk (qAL (zk BK334) hb); replace BK336 := qA0.mk (qAL (zk BK336) hb); replace HB := qA0.mk (qBZ zb hb); clear hb hbox hg; have hnb34 := NB338_333.out; have hnc34 := NB333_338.out; have hnb35 := NB338_334.out; have hnc35 := NB334_338.out; have hnb36 := NB338_336.out; have hnc36 := NB336_338.out; obtain ⟨hcz37_0, hcz37_1, hcz37_2, hcz37_3, hcz37_4, hcz37_5, hfz37_0, hfz37_1, hfz37_2, hfz37_3, hfz37_4, hfz37_5⟩ := bc6 BK338.out; have hnb38 := NB336_333.out; have hnc38 := NB333_336.out; have hnb39 := NB336_334.out; have hnc39 := NB334_336.out; obtain ⟨hcz40_0, hcz40_1, hcz40_2, hcz40_3, hcz40_4, hcz40_5, hfz40_0, hfz40_1, hfz40_2, hfz40_3, hfz40_4, hfz40_5⟩ := bc6 BK336.out; have hnb41 := NB333_334.out; have hnc41 := NB334_333.out; obtain ⟨hcz42_0, hcz42_1, hfz42_0, hfz42_1⟩ := bc2 BK333.out))
  go_roundg k2
  case measure => have := HK1.out; have := HK2.out; omega
  case rel => exact ⟨(wrap64 (x19_2 + 1)), (x335000_2), (x335001_2), (x335005_2), zs, H', ⟨by have := HK1.out; have := HK2.out; omega⟩, ⟨by refine zf_ ?_ NB333_338; refine zf_ ?_ NB333_338; refine zf_ ?_ NB333_338; refine zf_ ?_ NB333_338; refine zf_ ?_ NB333_338; refine zf_ ?_ NB333_338; (with_reducible repeat refine st ?_); exact BK333.out⟩, ⟨by refine zf_ ?_ NB334_338; refine zf_ ?_ NB334_338; refine zf_ ?_ NB334_338; refine zf_ ?_ NB334_338; refine zf_ ?_ NB334_338; refine zf_ ?_ NB334_338; (with_reducible repeat refine st ?_); exact BK334.out⟩, ⟨by refine zf_ ?_ NB336_338; refine zf_ ?_ NB336_338; refine zf_ ?_ NB336_338; refine zf_ ?_ NB336_338; refine zf_ ?_ NB336_338; refine zf_ ?_ NB336_338; (with_reducible repeat refine st ?_); exact BK336.out⟩, ⟨zb⟩⟩
 rw [if_pos c16] at H
 have ⟨c16b0, c16b1⟩ := ze c16
 clear c16
 replace H := Option.bind_eq_some_iff.mp H
 obtain ⟨⟨t339, t340, t341, t344, t347, t350⟩, A170, H⟩ := H
 replace H : (some (t339, t340, t341, t344, t347, t350, true)) = some (r1, r2, r3, r4, r5, r6, r7) := H
 have A17 := qA0.mk A170
 clear A170
 simp only [Option.some.injEq, Prod.mk.injEq] at H
 obtain ⟨rfl, rfl, rfl, rfl, rfl, rfl, rfl⟩ := H
 have p337 : 0 ≤ (x19_2 : Int) := zd
 have q337 : x19_2 < (((qAB l0 x12_1).f5).length : Int) := zd
 obtain ⟨ad337, A337_2, c337_2, A337_3, c337_3, A337_4, c337_4, e337, hx337_0, hx337_1, hx337_2, hx337_3, hx337_4, hx337_5, hl337_2, hi337_2, hl337_3, hi337_3, hl337_4, hi337_4⟩ := at_T72 HR335_5.out x19_2 p337 q337
 cases e337
 (try replace hx337_0 := zh hx337_0)
 replace hx337_1 := zh hx337_1
 replace hx337_2 := zh hx337_2
 replace hx337_3 := zh hx337_3
 replace hx337_4 := zh hx337_4
 replace hx337_5 := zh hx337_5
 have HR337_2 := qA0.mk hi337_2
 have HC337_2 := qA0.mk hl337_2
 clear hi337_2 hl337_2
 have HR337_3 := qA0.mk hi337_3
 have HC337_3 := qA0.mk hl337_3
 clear hi337_3 hl337_3
 have HR337_4 := qA0.mk hi337_4
 have HC337_4 := qA0.mk hl337_4
 clear hi337_4 hl337_4
 replace p337 := eq_true p337
 replace q337 := eq_true q337
 go_wp2_with (first | ((with_reducible refine qA9 (N := 9) rfl ?_); refine box_event ?hg (N := 9) ?hd (cs := #[.string (⟨#[]⟩ : ByteArray), .string (⟨#[]⟩ : ByteArray), .slice none 0 0, .slice none 0 0, .slice none 0 0, .int .i64 0]) (t := 72) ?hr ?_; (case hd => rfl); (case hg => rfl); (case hr => first | (go_simp; done) | (go_simp; rfl)); intro gb338 hg w18 hbox hb; have BK338 := qA0.mk (hbox); have GW338 := zg w gb338; have GE338 := zg w gb338; have NB333_338 := zl BK333 gb338; have NB338_333 := zu BK333 gb338; have NB334_338 := zl BK334 gb338; have NB338_334 := zu BK334 gb338; have NB336_338 := zl BK336 gb338; have NB338_336 := zu BK336 gb338; replace BK333 := qA0.mk (qAL (zk BK333) hb); replace BK334 := qA0.mk (qAL (zk BK334) hb); replace BK336 := qA0.mk (qAL (zk BK336) hb); replace HB := qA0.mk (qBZ zb hb); clear hb hbox hg; have hnb19 := NB338_333.out; have hnc19 := NB333_338.out; have hnb20 := NB338_334.out; have hnc20 := NB334_338.out; have hnb21 := NB338_336.out; have hnc21 := NB336_338.out; obtain ⟨hcz22_0, hcz22_1, hcz22_2, hcz22_3, hcz22_4, hcz22_5, hfz22_0, hfz22_1, hfz22_2, hfz22_3, hfz22_4, hfz22_5⟩ := bc6 BK338.out; have hnb23 := NB336_333.out; have hnc23 := NB333_336.out; have hnb24 := NB336_334.out; have hnc24 := NB334_336.out; obtain ⟨hcz25_0, hcz25_1, hcz25_2, hcz25_3, hcz25_4, hcz25_5, hfz25_0, hfz25_1, hfz25_2, hfz25_3, hfz25_4, hfz25_5⟩ := bc6 BK336.out; have hnb26 := NB333_334.out; have hnc26 := NB334_333.out; obtain ⟨hcz27_0, hcz27_1, hfz27_0, hfz27_1⟩ := bc2 BK333.out) | ((with_reducible refine qA6 (f := 116) rfl ?_); refine qBP (some 36) Tryz.func116 #[.agg #[.string ((qCE ((qAB l0 x12_1).f5) x19_2).f0), .string ((qCE ((qAB l0 x12_1).f5) x19_2).f1), .slice A337_2 ((qCE ((qAB l0 x12_1).f5) x19_2).f2).length c337_2, .slice A337_3 ((qCE ((qAB l0 x12_1).f5) x19_2).f3).length c337_3, .slice A337_4 ((qCE ((qAB l0 x12_1).f5) x19_2).f4).length c337_4, .int .i64 ((qCE ((qAB l0 x12_1).f5) x19_2).f5)]] ?_; (with_reducible refine (qB5.calls k2 ((qCE ((qAB l0 x12_1).f5) x19_2).f0) ((qCE ((qAB l0 x12_1).f5) x19_2).f1) _ _ ((qCE ((qAB l0 x12_1).f5) x19_2).f2) _ _ ((qCE ((qAB l0 x12_1).f5) x19_2).f3) _ _ ((qCE ((qAB l0 x12_1).f5) x19_2).f4) ((qCE ((qAB l0 x12_1).f5) x19_2).f5) t339 t340 t341 t344 t347 t350 _ ?side1 ?side2 ?side3 ?side4 ?side5 ?side6 A17.out).mono ?_); (case side1 => exact Kd.qAE HR337_2.out zb); (case side2 => exact HC337_2.out); (case side3 => exact Kd.qAE HR337_3.out zb); (case side4 => exact HC337_3.out); (case side5 => exact Kd.qAE HR337_4.out zb); (case side6 => exact HC337_4.out); rintro e w28 ⟨v342, v345, v348, rfl, ho0, ho1, ho2, hb⟩; refine ⟨_, rfl, ?_⟩; have HO343 := qA0.mk (Kd.qF6 ho0 (qAI zb)); have HO346 := qA0.mk (Kd.qF6 ho1 (qAI zb)); have HO349 := qA0.mk (Kd.qCI (Kd.R_newB ho2 (g := gb333) (o := .cells #[.string a1_0, .string a1_1] 114 (0, 0)) (by refine zf_ ?_ NB333_338; refine zf_ ?_ NB333_338; refine zf_ ?_ NB333_338; refine zf_ ?_ NB333_338; refine zf_ ?_ NB333_338; refine zf_ ?_ NB333_338; (with_reducible repeat refine st ?_); exact BK333.out)) (qAI zb)); replace BK333 := qA0.mk (qAL (g := gb333) (o := .cells #[.string a1_0, .string a1_1] 114 (0, 0)) (by refine zf_ ?_ NB333_338; refine zf_ ?_ NB333_338; refine zf_ ?_ NB333_338; refine zf_ ?_ NB333_338; refine zf_ ?_ NB333_338; refine zf_ ?_ NB333_338; (with_reducible repeat refine st ?_); exact BK333.out) hb); replace BK334 := qA0.mk (qAL (g := gb334) (o := .cells #[.string x335000_2, .string x335001_2, .slice none 0 0, .slice none 0 0, .slice none 0 0, .int .i64 x335005_2] 72 (0, 0)) (by refine zf_ ?_ NB334_338; refine zf_ ?_ NB334_338; refine zf_ ?_ NB334_338; refine zf_ ?_ NB334_338; refine zf_ ?_ NB334_338; refine zf_ ?_ NB334_338; (with_reducible repeat refine st ?_); exact BK334.out) hb); replace BK336 := qA0.mk (qAL (g := gb336) (o := .cells #[.string ((qAB l0 x12_1).f0), .int .i64 ((qAB l0 x12_1).f1), .int .i64 ((qAB l0 x12_1).f2), .slice A335_3 ((qAB l0 x12_1).f3).length c335_3, .slice A335_4 ((qAB l0 x12_1).f4).length c335_4, .slice (some ad337) ((qAB l0 x12_1).f5).length c335_5] 76 (0, 0)) (by refine zf_ ?_ NB336_338; refine zf_ ?_ NB336_338; refine zf_ ?_ NB336_338; refine zf_ ?_ NB336_338; refine zf_ ?_ NB336_338; refine zf_ ?_ NB336_338; (with_reducible repeat refine st ?_); exact BK336.out) hb); replace BK338 := qA0.mk (qAL (g := gb338) (o := .cells #[.string ((qCE ((qAB l0 x12_1).f5) x19_2).f0), .string ((qCE ((qAB l0 x12_1).f5) x19_2).f1), .slice A337_2 ((qCE ((qAB l0 x12_1).f5) x19_2).f2).length c337_2, .slice A337_3 ((qCE ((qAB l0 x12_1).f5) x19_2).f3).length c337_3, .slice A337_4 ((qCE ((qAB l0 x12_1).f5) x19_2).f4).length c337_4, .int .i64 ((qCE ((qAB l0 x12_1).f5) x19_2).f5)] 72 (0, 0)) (by refine zp_ (cs := #[.string ((qCE ((qAB l0 x12_1).f5) x19_2).f0), .string ((qCE ((qAB l0 x12_1).f5) x19_2).f1), .slice A337_2 ((qCE ((qAB l0 x12_1).f5) x19_2).f2).length c337_2, .slice A337_3 ((qCE ((qAB l0 x12_1).f5) x19_2).f3).length c337_3, .slice A337_4 ((qCE ((qAB l0 x12_1).f5) x19_2).f4).length c337_4, .int .i64 0]) ?_ 5; refine zp_ (cs := #[.string ((qCE ((qAB l0 x12_1).f5) x19_2).f0), .string ((qCE ((qAB l0 x12_1).f5) x19_2).f1), .slice A337_2 ((qCE ((qAB l0 x12_1).f5) x19_2).f2).length c337_2, .slice A337_3 ((qCE ((qAB l0 x12_1).f5) x19_2).f3).length c337_3, .slice none 0 0, .int .i64 0]) ?_ 4; refine zp_ (cs := #[.string ((qCE ((qAB l0 x12_1).f5) x19_2).f0), .string ((qCE ((qAB l0 x12_1).f5) x19_2).f1), .slice A337_2 ((qCE ((qAB l0 x12_1).f5) x19_2).f2).length c337_2, .slice none 0 0, .slice none 0 0, .int .i64 0]) ?_ 3; refine zp_ (cs := #[.string ((qCE ((qAB l0 x12_1).f5) x19_2).f0), .string ((qCE ((qAB l0 x12_1).f5) x19_2).f1), .slice none 0 0, .slice none 0 0, .slice none 0 0, .int .i64 0]) ?_ 2; (with_reducible repeat refine st ?_); refine qD0 (cs := #[.string ((qCE ((qAB l0 x12_1).f5) x19_2).f0), .string (⟨#[]⟩ : ByteArray), .slice none 0 0, .slice none 0 0, .slice none 0 0, .int .i64 0]) ?_ 1 _ rfl; (with_reducible repeat refine st ?_); refine qD0 (cs := #[.string (⟨#[]⟩ : ByteArray), .string (⟨#[]⟩ : ByteArray), .slice none 0 0, .slice none 0 0, .slice none 0 0, .int .i64 0]) ?_ 0 _ rfl; (with_reducible repeat refine st ?_); exact BK338.out) hb); replace HB := qA0.mk (qBZ zb hb); (try clear hb); (try clear hb2); (try clear hk); (try clear hi); (try clear ho0); (try clear ho1); (try clear ho2); obtain ⟨hcz29_0, hcz29_1, hcz29_2, hcz29_3, hcz29_4, hcz29_5, hfz29_0, hfz29_1, hfz29_2, hfz29_3, hfz29_4, hfz29_5⟩ := bc6 BK334.out; obtain ⟨Ao30, co30, eo30⟩ := Kd.qF5 HO343.out; subst eo30; obtain ⟨Ao31, co31, eo31⟩ := Kd.qF5 HO346.out; subst eo31; obtain ⟨Ao32, co32, eo32⟩ := Kd.qBV HO349.out; subst eo32))
 refine bodyPost_ret (qDN rfl _ _ gb334 72 #[.string t339, .string t340, .slice Ao30 t341.length co30, .slice Ao31 t344.length co31, .slice Ao32 t347.length co32, .int .i64 t350] (0, 0) _ rfl (by refine zp_ (cs := #[.string t339, .string t340, .slice Ao30 t341.length co30, .slice Ao31 t344.length co31, .slice Ao32 t347.length co32, .int .i64 x335005_2]) ?_ 5; refine zp_ (cs := #[.string t339, .string t340, .slice Ao30 t341.length co30, .slice Ao31 t344.length co31, .slice none 0 0, .int .i64 x335005_2]) ?_ 4; refine zp_ (cs := #[.string t339, .string t340, .slice Ao30 t341.length co30, .slice none 0 0, .slice none 0 0, .int .i64 x335005_2]) ?_ 3; refine zp_ (cs := #[.string t339, .string t340, .slice none 0 0, .slice none 0 0, .slice none 0 0, .int .i64 x335005_2]) ?_ 2; refine zp_ (cs := #[.string t339, .string x335001_2, .slice none 0 0, .slice none 0 0, .slice none 0 0, .int .i64 x335005_2]) ?_ 1; refine zp_ (cs := #[.string x335000_2, .string x335001_2, .slice none 0 0, .slice none 0 0, .slice none 0 0, .int .i64 x335005_2]) ?_ 0; (with_reducible repeat refine st ?_); exact BK334.out) Tryz.underlying72 rfl (by kernel_rfl)) rfl ?_
 exact ⟨_, _, _, zf, by (with_reducible repeat refine sS ?_); exact Kd.qDQ (Kd.qCH (Kd.qCH (Kd.qCH (Kd.qCH (Kd.qCH (Kd.qCH (Kd.qEJ HO343.out BK334.out (by decide)) (fun _ hk => hk.2) _) (fun _ hk => hk.2) _) (fun _ hk => hk.2) _) (fun _ hk => hk.2) _) (fun _ hk => hk.2) _) (fun _ hk => hk.2) _) (fun _ hk => hk.1), by (with_reducible repeat refine sS ?_); exact Kd.qDQ (Kd.qCH (Kd.qCH (Kd.qCH (Kd.qCH (Kd.qCH (Kd.qCH (Kd.qEJ HO346.out BK334.out (by decide)) (fun _ hk => hk.2) _) (fun _ hk => hk.2) _) (fun _ hk => hk.2) _) (fun _ hk => hk.2) _) (fun _ hk => hk.2) _) (fun _ hk => hk.2) _) (fun _ hk => hk.1), by (with_reducible repeat refine sR ?_); exact Kd.qB7 (Kd.qAW (Kd.qAW (Kd.qAW (Kd.qAW (Kd.qAW (Kd.qAW (Kd.qBG HO349.out BK334.out (by decide)) (fun _ hk => hk.2) _) (fun _ hk => hk.2) _) (fun _ hk => hk.2) _) (fun _ hk => hk.2) _) (fun _ hk => hk.2) _) (fun _ hk => hk.2) _) (fun _ hk => trivial), zb⟩
def qBU.l0 : Nat → List (S114) → Int → Int → ByteArray → ByteArray → Option (Int)
 | 0, _, _, _, _, _ => none
 | k + 1, x0, x7, x8, x352000, x352001 => if x8 < x7 then (if 0 ≤ x8 then (if x8 < (x0.length : Int) then (if (x352000.toList == (((qB4 x0 x8).f0).toList) && (x352001.toList == (((qB4 x0 x8).f1).toList))) = true then (some x8) else (qBU.l0 k x0 x7 (wrap64 (x8 + 1)) x352000 x352001)) else (none)) else (none)) else (some (-1))
def qBU.f (k : Nat) (l0 : List (S114)) (a1_0 : ByteArray) (a1_1 : ByteArray) : Option (Int) := qBU.l0 k l0 (l0.length : Int) 0 a1_0 a1_1
theorem qBU.qC6 : ∀ k, (∀ y0 y1 y2 y3 y4, LeO (qBU.l0 k y0 y1 y2 y3 y4) (qBU.l0 (k + 1) y0 y1 y2 y3 y4))
 | 0 => fun _ _ _ _ _ r h => by simp [qBU.l0] at h
 | k + 1 => by
  have ih0 := qBU.qC6 k
  ·intro y0 y1 y2 y3 y4
   unfold qBU.l0
   exact zm
theorem qBU.mono : ∀ a0 a1 a2 k, LeO (qBU.f k a0 a1 a2) (qBU.f (k + 1) a0 a1 a2) := by
 intro a0 a1 a2 k
 have ih0 := qBU.qC6 k
 unfold qBU.f
 exact zm
set_option maxHeartbeats 8000000 in
set_option maxRecDepth 100000 in
theorem qBU.calls (k : Nat) (A0 : Option Addr) (c0 : Nat) (l0 : List (S114)) (a1_0 : ByteArray) (a1_1 : ByteArray) (r : Int) (w : World) (hr0 : Kd.C k114 w A0 l0.length l0) (hc0 : l0.length ≤ c0) (h : qBU.f k l0 a1_0 a1_1 = some r) :
  Calls Tryz.prog 117 #[.slice A0 l0.length c0, .agg #[.string a1_0, .string a1_1]] w fun e w' => e = .returned (.int .i64 r) ∧ Below w.heap.size w w' := by
 have hu114 := Tryz.underlying114
 have HR0 := qA0.mk hr0
 have HC0 := qA0.mk hc0
 clear hr0 hc0
 have HB := qA0.mk (Below.refl w.heap.size w)
 have H : (qBU.l0 k l0 (l0.length : Int) 0 a1_0 a1_1) = some r := h
 clear h
 have H' := qA0.mk H
 clear H
 go_enter Tryz.func117, Tryz.ntmps117
 go_wp2_with (((with_reducible refine qA9 (N := 3) rfl ?_); refine box_event ?hg (N := 3) ?hd (cs := #[.string a1_0, .string a1_1]) (t := 114) ?hr ?_; (case hd => rfl); (case hg => rfl); (case hr => first | (go_simp; done) | (go_simp; rfl)); intro gb351 hg w3 hbox hb; have BK351 := qA0.mk (hbox); have GW351 := zg w gb351; have GE351 := zg w gb351; replace HB := qA0.mk (qBZ zb hb); clear hb hbox hg))
 go_loopg [8] k (fun kq v8 w' => ∃ (x8_1 : Int), v8 = .int .i64 x8_1 ∧ qA0 (qBU.l0 kq l0 (l0.length : Int) x8_1 a1_0 a1_1 = some r) ∧ qA0 (kq ≤ k) ∧ qA0 (w'.heap[gb351]? = some (.cells #[.string a1_0, .string a1_1] 114 (0, 0))) ∧ qA0 (Below w.heap.size w w'))
 case atStart => exact ⟨(0), zs, H', ⟨Nat.le_refl _⟩, ⟨zk BK351⟩, ⟨zb⟩⟩
 clear H'
 obtain ⟨x8_1, rfl, HA, HK1, BK351, HB⟩ := hrel
 obtain _ | k1 := gk
 ·exact absurd HA.out (by simp [qBU.l0])
 have H := HA.out
 clear HA
 simp only [qBU.l0] at H
 by_cases c4 : x8_1 < (l0.length : Int)
 rotate_left
 ·rw [if_neg c4] at H
  have c4b0 := decide_eq_false c4
  clear c4
  obtain rfl := Option.some.inj H
  go_wp2
  go_ret
  exact ⟨zf, zb⟩
 rw [if_pos c4] at H
 have c4b0 := decide_eq_true c4
 clear c4
 by_cases c5 : 0 ≤ x8_1
 rotate_left
 ·rw [if_neg c5] at H
  exact absurd H (by simp)
 rw [if_pos c5] at H
 have c5b0 := decide_eq_true c5
 clear c5
 by_cases c6 : x8_1 < (l0.length : Int)
 rotate_left
 ·rw [if_neg c6] at H
  exact absurd H (by simp)
 rw [if_pos c6] at H
 have c6b0 := decide_eq_true c6
 clear c6
 by_cases c7 : (a1_0.toList == (((qB4 l0 x8_1).f0).toList) && (a1_1.toList == (((qB4 l0 x8_1).f1).toList))) = true
 ·rw [if_pos c7] at H
  have c7b0 : (a1_0.toList == (((qB4 l0 x8_1).f0).toList) && (a1_1.toList == (((qB4 l0 x8_1).f1).toList))) = true := c7
  (try (have c7b1 : decide (a1_0.toList = (((qB4 l0 x8_1).f0).toList) && (a1_1.toList == (((qB4 l0 x8_1).f1).toList))) = true := by simpa using c7))
  (try (have c7b2 : (a1_0.toList == (((qB4 l0 x8_1).f0).toList) && (a1_1.toList == (((qB4 l0 x8_1).f1).toList))) = true := by simpa using c7))
  clear c7
  obtain rfl := Option.some.inj H
  obtain ⟨hcz8_0, hcz8_1, hfz8_0, hfz8_1⟩ := bc2 BK351.out
  have p352 : 0 ≤ (x8_1 : Int) := zd
  have q352 : x8_1 < (l0.length : Int) := zd
  obtain ⟨ad352, e352, hx352_0, hx352_1⟩ := at_T114 HR0.out x8_1 p352 q352
  cases e352
  (try replace hx352_0 := zh hx352_0)
  replace hx352_1 := zh hx352_1
  replace p352 := eq_true p352
  replace q352 := eq_true q352
  go_wp2
  repeat (go_quiet (fail); try go_wp2)
  go_ret
  exact ⟨zf, zb⟩
 rw [if_neg c7] at H
 have c7b0 : (a1_0.toList == (((qB4 l0 x8_1).f0).toList) && (a1_1.toList == (((qB4 l0 x8_1).f1).toList))) = false := by simpa using c7
 (try (have c7b1 : decide (a1_0.toList = (((qB4 l0 x8_1).f0).toList) && (a1_1.toList == (((qB4 l0 x8_1).f1).toList))) = false := by simpa using c7))
 (try (have c7b2 : (a1_0.toList == (((qB4 l0 x8_1).f0).toList) && (a1_1.toList == (((qB4 l0 x8_1).f1).toList))) = false := by simpa using c7))
 (try (have c7b3 : ¬ (a1_0.toList = (((qB4 l0 x8_1).f0).toList) && (a1_1.toList == (((qB4 l0 x8_1).f1).toList))) := by simpa using c7))
 clear c7
 have H' := qA0.mk H
 clear H
 obtain ⟨hcz9_0, hcz9_1, hfz9_0, hfz9_1⟩ := bc2 BK351.out
 have p352 : 0 ≤ (x8_1 : Int) := zd
 have q352 : x8_1 < (l0.length : Int) := zd
 obtain ⟨ad352, e352, hx352_0, hx352_1⟩ := at_T114 HR0.out x8_1 p352 q352
 cases e352
 (try replace hx352_0 := zh hx352_0)
 replace hx352_1 := zh hx352_1
 replace p352 := eq_true p352
 replace q352 := eq_true q352
 go_wp2
 repeat (go_quiet (fail); try go_wp2)
 go_roundg k1
 case measure => have := HK1.out; omega
 case rel => exact ⟨(wrap64 (x8_1 + 1)), zs, H', ⟨by have := HK1.out; omega⟩, ⟨zk BK351⟩, ⟨zb⟩⟩
def qCW.f (k : Nat) (l0 : List (S114)) (a1_0 : ByteArray) (a1_1 : ByteArray) : Option (Bool) := (qBU.f k l0 a1_0 a1_1).bind fun t354 => (some (decide (t354 ≥ 0)))
theorem qCW.mono : ∀ a0 a1 a2 k, LeO (qCW.f k a0 a1 a2) (qCW.f (k + 1) a0 a1 a2) := by
 intro a0 a1 a2 k
 unfold qCW.f
 have im0 := @qBU.mono
 exact zm
set_option maxHeartbeats 8000000 in
set_option maxRecDepth 100000 in
theorem qCW.calls (k : Nat) (A0 : Option Addr) (c0 : Nat) (l0 : List (S114)) (a1_0 : ByteArray) (a1_1 : ByteArray) (r : Bool) (w : World) (hr0 : Kd.C k114 w A0 l0.length l0) (hc0 : l0.length ≤ c0) (h : qCW.f k l0 a1_0 a1_1 = some r) :
  Calls Tryz.prog 77 #[.slice A0 l0.length c0, .agg #[.string a1_0, .string a1_1]] w fun e w' => e = .returned (.bool r) ∧ Below w.heap.size w w' := by
 have hu114 := Tryz.underlying114
 have HR0 := qA0.mk hr0
 have HC0 := qA0.mk hc0
 clear hr0 hc0
 have HB := qA0.mk (Below.refl w.heap.size w)
 have H : ((qBU.f k l0 a1_0 a1_1).bind fun t354 => (some (decide (t354 ≥ 0)))) = some r := h
 clear h
 replace H := Option.bind_eq_some_iff.mp H
 obtain ⟨t354, A30, H⟩ := H
 have A3 := qA0.mk A30
 clear A30
 obtain rfl := Option.some.inj H
 go_enter Tryz.func77, Tryz.ntmps77
 go_wp2_with (first | ((with_reducible refine qA9 (N := 3) rfl ?_); refine box_event ?hg (N := 3) ?hd (cs := #[.string a1_0, .string a1_1]) (t := 114) ?hr ?_; (case hd => rfl); (case hg => rfl); (case hr => first | (go_simp; done) | (go_simp; rfl)); intro gb353 hg w4 hbox hb; have BK353 := qA0.mk (hbox); have GW353 := zg w gb353; have GE353 := zg w gb353; replace HB := qA0.mk (qBZ zb hb); clear hb hbox hg; obtain ⟨hcz5_0, hcz5_1, hfz5_0, hfz5_1⟩ := bc2 BK353.out) | ((with_reducible refine qA6 (f := 117) rfl ?_); refine qBP (some 7) Tryz.func117 #[.slice A0 l0.length c0, .agg #[.string a1_0, .string a1_1]] ?_; (with_reducible refine (qBU.calls k _ _ l0 a1_0 a1_1 t354 _ ?side1 ?side2 A3.out).mono ?_); (case side1 => repeat (first | exact (Kd.qAE HR0.out HB.out) | refine sC ?_)); (case side2 => exact HC0.out); rintro e w6 ⟨rfl, hb⟩; refine ⟨_, rfl, ?_⟩; replace BK353 := qA0.mk (qAL (zk BK353) hb); replace HB := qA0.mk (qBZ zb hb); (try clear hb); (try clear hb2); (try clear hk); (try clear hi)))
 go_ret
 exact ⟨zf, zb⟩
attribute [local go_sem high] eqA114
mutual
def qBJ.l0 : Nat → List (S76) → List (S114) → Int → Int → ByteArray → ByteArray → ByteArray → ByteArray → List (S66) → List (S66) → List (S114) → Int → Option (Int)
 | 0, _, _, _, _, _, _, _, _, _, _, _, _ => none
 | k + 1, x0, x12, x13, x14, x356000, x356001, x357000, x357001, x357002, x357003, x357004, x357005 => if x14 < x13 then (if 0 ≤ x14 then (if x14 < (x12.length : Int) then ((qAS.f k x0 ((qB4 x12 x14).f0) ((qB4 x12 x14).f1)).bind fun bt359 => (if bt359.2.2.2.2.2.2 = true then (if ((((qB4 x12 x14).f0).toList) == x356000.toList && ((((qB4 x12 x14).f1).toList) == x356001.toList)) = true then (qBJ.j1 k x0 x14 x12 x13 x14 true x356000 x356001 x357000 x357001 x357002 x357003 x357004 x357005 ((qB4 x12 x14).f0) ((qB4 x12 x14).f1)) else (qBJ.j1 k x0 x14 x12 x13 x14 (bt359.2.1.toList != x357001.toList) x356000 x356001 x357000 x357001 x357002 x357003 x357004 x357005 ((qB4 x12 x14).f0) ((qB4 x12 x14).f1))) else (some 4))) else (none)) else (none)) else (some 0)
def qBJ.j1 : Nat → List (S76) → Int → List (S114) → Int → Int → Bool → ByteArray → ByteArray → ByteArray → ByteArray → List (S66) → List (S66) → List (S114) → Int → ByteArray → ByteArray → Option (Int)
 | 0, _, _, _, _, _, _, _, _, _, _, _, _, _, _, _, _ => none
 | k + 1, x0, x7, x12, x13, x14, x28, x356000, x356001, x357000, x357001, x357002, x357003, x357004, x357005, x359000, x359001 => if x28 = true then (some 19) else (if 0 ≤ x7 then (if x7 ≤ (x357004.length : Int) then ((qCW.f k (x357004.take (x7 : Int).toNat) x359000 x359001).bind fun t377 => (if t377 = true then (some 5) else (qBJ.l0 k x0 x12 x13 (wrap64 (x14 + 1)) x356000 x356001 x357000 x357001 x357002 x357003 x357004 x357005))) else (none)) else (none))
end
def qBJ.f (k : Nat) (l0 : List (S76)) (a1_0 : ByteArray) (a1_1 : ByteArray) (a2_0 : ByteArray) (a2_1 : ByteArray) (l2_2 : List (S66)) (l2_3 : List (S66)) (l2_4 : List (S114)) (a2_5 : Int) : Option (Int) := qBJ.l0 k l0 l2_4 (l2_4.length : Int) 0 a1_0 a1_1 a2_0 a2_1 l2_2 l2_3 l2_4 a2_5
theorem qBJ.qC6 : ∀ k, (∀ y0 y1 y2 y3 y4 y5 y6 y7 y8 y9 y10 y11, LeO (qBJ.l0 k y0 y1 y2 y3 y4 y5 y6 y7 y8 y9 y10 y11) (qBJ.l0 (k + 1) y0 y1 y2 y3 y4 y5 y6 y7 y8 y9 y10 y11)) ∧ (∀ y0 y1 y2 y3 y4 y5 y6 y7 y8 y9 y10 y11 y12 y13 y14 y15, LeO (qBJ.j1 k y0 y1 y2 y3 y4 y5 y6 y7 y8 y9 y10 y11 y12 y13 y14 y15) (qBJ.j1 (k + 1) y0 y1 y2 y3 y4 y5 y6 y7 y8 y9 y10 y11 y12 y13 y14 y15))
 | 0 => ⟨fun _ _ _ _ _ _ _ _ _ _ _ _ r h => by simp [qBJ.l0] at h, fun _ _ _ _ _ _ _ _ _ _ _ _ _ _ _ _ r h => by simp [qBJ.j1] at h⟩
 | k + 1 => by
  obtain ⟨ih0, ih1⟩ := qBJ.qC6 k
  refine ⟨?_, ?_⟩
  ·intro y0 y1 y2 y3 y4 y5 y6 y7 y8 y9 y10 y11
   unfold qBJ.l0
   have im0 := @qCW.mono
   have im1 := @qAS.mono
   exact zm
  ·intro y0 y1 y2 y3 y4 y5 y6 y7 y8 y9 y10 y11 y12 y13 y14 y15
   unfold qBJ.j1
   have im0 := @qCW.mono
   have im1 := @qAS.mono
   exact zm
theorem qBJ.mono : ∀ a0 a1 a2 a3 a4 a5 a6 a7 a8 k, LeO (qBJ.f k a0 a1 a2 a3 a4 a5 a6 a7 a8) (qBJ.f (k + 1) a0 a1 a2 a3 a4 a5 a6 a7 a8) := by
 intro a0 a1 a2 a3 a4 a5 a6 a7 a8 k
 obtain ⟨ih0, ih1⟩ := qBJ.qC6 k
 unfold qBJ.f
 have im0 := @qCW.mono
 have im1 := @qAS.mono
 exact zm
theorem qBJ.calls (k : Nat) (A0 : Option Addr) (c0 : Nat) (l0 : List (S76)) (a1_0 : ByteArray) (a1_1 : ByteArray) (a2_0 : ByteArray) (a2_1 : ByteArray) (A2_2 : Option Addr) (c2_2 : Nat) (l2_2 : List (S66)) (A2_3 : Option Addr) (c2_3 : Nat) (l2_3 : List (S66)) (A2_4 : Option Addr) (c2_4 : Nat) (l2_4 : List (S114)) (a2_5 : Int) (r : Int) (w : World) (hr0 : Kd.C k76 w A0 l0.length l0) (hc0 : l0.length ≤ c0) (hr2_2 : Kd.C k66 w A2_2 l2_2.length l2_2) (hc2_2 : l2_2.length ≤ c2_2) (hr2_3 : Kd.C k66 w A2_3 l2_3.length l2_3) (hc2_3 : l2_3.length ≤ c2_3) (hr2_4 : Kd.C k114 w A2_4 l2_4.length l2_4) (hc2_4 : l2_4.length ≤ c2_4) (h : qBJ.f k l0 a1_0 a1_1 a2_0 a2_1 l2_2 l2_3 l2_4 a2_5 = some r) :
  Calls Tryz.prog 51 #[.slice A0 l0.length c0, .agg #[.string a1_0, .string a1_1], .agg #[.string a2_0, .string a2_1, .slice A2_2 l2_2.length c2_2, .slice A2_3 l2_3.length c2_3, .slice A2_4 l2_4.length c2_4, .int .i64 a2_5]] w fun e w' => e = .returned (.int .i64 r) ∧ Below w.heap.size w w' := by
 have hu114 := Tryz.underlying114
 have hu72 := Tryz.underlying72
 have HR0 := qA0.mk hr0
 have HC0 := qA0.mk hc0
 clear hr0 hc0
 have HR2_2 := qA0.mk hr2_2
 have HC2_2 := qA0.mk hc2_2
 clear hr2_2 hc2_2
 have HR2_3 := qA0.mk hr2_3
 have HC2_3 := qA0.mk hc2_3
 clear hr2_3 hc2_3
 have HR2_4 := qA0.mk hr2_4
 have HC2_4 := qA0.mk hc2_4
 clear hr2_4 hc2_4
 have HB := qA0.mk (Below.refl w.heap.size w)
 have H := h
 unfold qBJ.f at H
 clear h
 have H' := qA0.mk H
 clear H
 go_enter Tryz.func51, Tryz.ntmps51
 go_wp2_with (first | ((with_reducible refine qA9 (N := 4) rfl ?_); refine boxZ 4 #[.string a1_0, .string a1_1] 114 ?_; intro gb355 hg w4 hbox hb; have BK355 := qA0.mk (hbox); have GW355 := zg w gb355; have GE355 := zg w gb355; replace HB := zB hb; clear hb hbox hg) | ((with_reducible refine qA9 (N := 5) rfl ?_); refine boxZ 5 #[.string a2_0, .string a2_1, .slice A2_2 l2_2.length c2_2, .slice A2_3 l2_3.length c2_3, .slice A2_4 l2_4.length c2_4, .int .i64 a2_5] 72 ?_; intro gb356 hg w5 hbox hb; have BK356 := qA0.mk (hbox); have GW356 := zg w gb356; have GE356 := zg w gb356; have NB355_356 := zl BK355 gb356; have NB356_355 := zu BK355 gb356; replace BK355 := zK BK355 hb; replace HB := zB hb; clear hb hbox hg; have hnb6 := NB356_355.out; have hnc6 := NB355_356.out; obtain ⟨hcz7_0, hcz7_1, hcz7_2, hcz7_3, hcz7_4, hcz7_5, hfz7_0, hfz7_1, hfz7_2, hfz7_3, hfz7_4, hfz7_5⟩ := bc6 BK356.out))
 go_loopg [14] k (fun kq v14 w' => ∃ (x14_1 : Int), v14 = .int .i64 x14_1 ∧ qA0 (qBJ.l0 kq l0 l2_4 (l2_4.length : Int) x14_1 a1_0 a1_1 a2_0 a2_1 l2_2 l2_3 l2_4 a2_5 = some r) ∧ qA0 (kq ≤ k) ∧ qA0 (w'.heap[gb355]? = some (.cells #[.string a1_0, .string a1_1] 114 (0, 0))) ∧ qA0 (w'.heap[gb356]? = some (.cells #[.string a2_0, .string a2_1, (.slice A2_2 l2_2.length c2_2), (.slice A2_3 l2_3.length c2_3), (.slice A2_4 l2_4.length c2_4), .int .i64 a2_5] 72 (0, 0))) ∧ qA0 (Below w.heap.size w w'))
 case atStart => exact ⟨(0), zs, H', ⟨Nat.le_refl _⟩, ⟨zk BK355⟩, ⟨zk BK356⟩, ⟨zb⟩⟩
 clear H' hcz7_0 hcz7_1 hcz7_2 hcz7_3 hcz7_4 hcz7_5 hfz7_0 hfz7_1 hfz7_2 hfz7_3 hfz7_4 hfz7_5
 obtain ⟨x14_1, rfl, HA, HK1, BK355, BK356, HB⟩ := hrel
 obtain _ | k1 := gk
 ·exact absurd HA.out (by simp [qBJ.l0])
 have H := HA.out
 clear HA
 simp only [qBJ.l0] at H
 by_cases c8 : x14_1 < (l2_4.length : Int)
 rotate_left
 ·rw [if_neg c8] at H
  have c8b0 := decide_eq_false c8
  clear c8
  obtain rfl := Option.some.inj H
  go_wp2
  go_ret
  exact ⟨zf, zb⟩
 rw [if_pos c8] at H
 have c8b0 := decide_eq_true c8
 clear c8
 by_cases c9 : 0 ≤ x14_1
 rotate_left
 ·rw [if_neg c9] at H
  cases H
 rw [if_pos c9] at H
 have c9b0 := decide_eq_true c9
 clear c9
 by_cases c10 : x14_1 < (l2_4.length : Int)
 rotate_left
 ·rw [if_neg c10] at H
  cases H
 rw [if_pos c10] at H
 have c10b0 := decide_eq_true c10
 clear c10
 replace H := zi H
 obtain ⟨⟨t359, t360, t361, t364, t367, t370, t371⟩, A110, H⟩ := H
 dsimp only at H
 have A11 := qA0.mk A110
 clear A110
 by_cases c12 : t371 = true
 rotate_left
 ·replace c12 := Bool.eq_false_iff.mpr c12
  subst c12
  rw [zj] at H
  obtain rfl := Option.some.inj H
  have p357 : 0 ≤ (x14_1 : Int) := zd
  have q357 : x14_1 < (l2_4.length : Int) := zd
  obtain ⟨ad357, e357, hx357_0, hx357_1⟩ := at_T114 HR2_4.out x14_1 p357 q357
  cases e357
  (try replace hx357_0 := zh hx357_0)
  replace hx357_1 := zh hx357_1
  replace p357 := eq_true p357
  replace q357 := eq_true q357
  go_wp2_with (first | ((with_reducible refine qA9 (N := 8) rfl ?_); refine boxZ 8 #[.string (⟨#[]⟩ : ByteArray), .string (⟨#[]⟩ : ByteArray)] 114 ?_; intro gb358 hg w56 hbox hb; have BK358 := qA0.mk (hbox); have GW358 := zg w gb358; have GE358 := zg w gb358; have NB355_358 := zl BK355 gb358; have NB358_355 := zu BK355 gb358; have NB356_358 := zl BK356 gb358; have NB358_356 := zu BK356 gb358; replace BK355 := zK BK355 hb; replace BK356 := zK BK356 hb; replace HB := zB hb; clear hb hbox hg; have hnb57 := NB358_355.out; have hnc57 := NB355_358.out; have hnb58 := NB358_356.out; have hnc58 := NB356_358.out; obtain ⟨hcz59_0, hcz59_1, hfz59_0, hfz59_1⟩ := bc2 BK358.out) | ((with_reducible refine qA6 (f := 76) rfl ?_); refine qBP (some 22) Tryz.func76 #[.slice A0 l0.length c0, .agg #[.string ((qB4 l2_4 x14_1).f0), .string ((qB4 l2_4 x14_1).f1)]] ?_; (with_reducible refine (qAS.calls k1 _ _ l0 ((qB4 l2_4 x14_1).f0) ((qB4 l2_4 x14_1).f1) t359 t360 t361 t364 t367 t370 false _ ?side1 ?side2 A11.out).mono ?_); (case side1 => exact Kd.qAE HR0.out zb); (case side2 => exact HC0.out); rintro e w60 ⟨v362, v365, v368, rfl, ho0, ho1, ho2, hb⟩; refine ⟨_, rfl, ?_⟩; have HO363 := qA0.mk (Kd.qF6 ho0 (qAI zb)); have HO366 := qA0.mk (Kd.qF6 ho1 (qAI zb)); have HO369 := qA0.mk (Kd.qCI (Kd.R_newB (Kd.R_newB ho2 (g := gb355) (o := .cells #[.string a1_0, .string a1_1] 114 (0, 0)) (by refine zf2 ?_ NB355_358; (with_reducible repeat refine st ?_); exact BK355.out)) (g := gb358) (o := .cells #[.string ((qB4 l2_4 x14_1).f0), .string ((qB4 l2_4 x14_1).f1)] 114 (0, 0)) (zp2 BK358)) (qAI zb)); replace BK355 := qA0.mk (qAL (g := gb355) (o := .cells #[.string a1_0, .string a1_1] 114 (0, 0)) (by refine zf2 ?_ NB355_358; (with_reducible repeat refine st ?_); exact BK355.out) hb); replace BK356 := qA0.mk (qAL (g := gb356) (o := .cells #[.string a2_0, .string a2_1, .slice A2_2 l2_2.length c2_2, .slice A2_3 l2_3.length c2_3, .slice (some ad357) l2_4.length c2_4, .int .i64 a2_5] 72 (0, 0)) (by refine zf2 ?_ NB356_358; (with_reducible repeat refine st ?_); exact BK356.out) hb); replace BK358 := qA0.mk (qAL (zp2 BK358) hb); replace HB := zB hb; (try clear hb hk); (try clear hb); (try clear ho0); (try clear ho1); (try clear ho2)) | ((with_reducible refine qA9 (N := 9) rfl ?_); refine boxZ 9 #[.string (⟨#[]⟩ : ByteArray), .string (⟨#[]⟩ : ByteArray), .slice none 0 0, .slice none 0 0, .slice none 0 0, .int .i64 0] 72 ?_; intro gb372 hg w61 hbox hb; have BK372 := qA0.mk (hbox); have GW372 := zg w gb372; have GE372 := zg w gb372; have NB355_372 := zl BK355 gb372; have NB372_355 := zu BK355 gb372; have NB356_372 := zl BK356 gb372; have NB372_356 := zu BK356 gb372; have NB358_372 := zl BK358 gb372; have NB372_358 := zu BK358 gb372; replace HO363 := qA0.mk (Kd.qDY (by (with_reducible repeat refine sS ?_); exact HO363.out) hb); replace HO366 := qA0.mk (Kd.qDY (by (with_reducible repeat refine sS ?_); exact HO366.out) hb); replace HO369 := qA0.mk (Kd.qBN (by (with_reducible repeat refine sR ?_); exact HO369.out) hb); replace BK355 := zK BK355 hb; replace BK356 := zK BK356 hb; replace BK358 := zK BK358 hb; replace HB := zB hb; clear hb hbox hg; have hnb62 := NB372_355.out; have hnc62 := NB355_372.out; have hnb63 := NB372_356.out; have hnc63 := NB356_372.out; have hnb64 := NB372_358.out; have hnc64 := NB358_372.out; obtain ⟨hcz65_0, hcz65_1, hcz65_2, hcz65_3, hcz65_4, hcz65_5, hfz65_0, hfz65_1, hfz65_2, hfz65_3, hfz65_4, hfz65_5⟩ := bc6 BK372.out; obtain ⟨Ao66, co66, eo66⟩ := Kd.qF5 HO363.out; subst eo66; obtain ⟨Ao67, co67, eo67⟩ := Kd.qF5 HO366.out; subst eo67; obtain ⟨Ao68, co68, eo68⟩ := Kd.qBV HO369.out; subst eo68))
  go_ret
  exact ⟨zf, zb⟩
 subst c12
 rw [if_pos rfl] at H
 have HC13 := qA0.mk H
 clear H
 have p357 : 0 ≤ (x14_1 : Int) := zd
 have q357 : x14_1 < (l2_4.length : Int) := zd
 obtain ⟨ad357, e357, hx357_0, hx357_1⟩ := at_T114 HR2_4.out x14_1 p357 q357
 cases e357
 (try replace hx357_0 := zh hx357_0)
 replace hx357_1 := zh hx357_1
 replace p357 := eq_true p357
 replace q357 := eq_true q357
 go_upto_region 7 with (first | ((with_reducible refine qA9 (N := 8) rfl ?_); refine boxZ 8 #[.string (⟨#[]⟩ : ByteArray), .string (⟨#[]⟩ : ByteArray)] 114 ?_; intro gb358 hg w14 hbox hb; have BK358 := qA0.mk (hbox); have GW358 := zg w gb358; have GE358 := zg w gb358; have NB355_358 := zl BK355 gb358; have NB358_355 := zu BK355 gb358; have NB356_358 := zl BK356 gb358; have NB358_356 := zu BK356 gb358; replace BK355 := zK BK355 hb; replace BK356 := zK BK356 hb; replace HB := zB hb; clear hb hbox hg; have hnb15 := NB358_355.out; have hnc15 := NB355_358.out; have hnb16 := NB358_356.out; have hnc16 := NB356_358.out; obtain ⟨hcz17_0, hcz17_1, hfz17_0, hfz17_1⟩ := bc2 BK358.out) | ((with_reducible refine qA6 (f := 76) rfl ?_); refine qBP (some 22) Tryz.func76 #[.slice A0 l0.length c0, .agg #[.string ((qB4 l2_4 x14_1).f0), .string ((qB4 l2_4 x14_1).f1)]] ?_; (with_reducible refine (qAS.calls k1 _ _ l0 ((qB4 l2_4 x14_1).f0) ((qB4 l2_4 x14_1).f1) t359 t360 t361 t364 t367 t370 true _ ?side1 ?side2 A11.out).mono ?_); (case side1 => exact Kd.qAE HR0.out zb); (case side2 => exact HC0.out); rintro e w18 ⟨v362, v365, v368, rfl, ho0, ho1, ho2, hb⟩; refine ⟨_, rfl, ?_⟩; have HO363 := qA0.mk (Kd.qF6 ho0 (qAI zb)); have HO366 := qA0.mk (Kd.qF6 ho1 (qAI zb)); have HO369 := qA0.mk (Kd.qCI (Kd.R_newB (Kd.R_newB ho2 (g := gb355) (o := .cells #[.string a1_0, .string a1_1] 114 (0, 0)) (by refine zf2 ?_ NB355_358; (with_reducible repeat refine st ?_); exact BK355.out)) (g := gb358) (o := .cells #[.string ((qB4 l2_4 x14_1).f0), .string ((qB4 l2_4 x14_1).f1)] 114 (0, 0)) (zp2 BK358)) (qAI zb)); replace BK355 := qA0.mk (qAL (g := gb355) (o := .cells #[.string a1_0, .string a1_1] 114 (0, 0)) (by refine zf2 ?_ NB355_358; (with_reducible repeat refine st ?_); exact BK355.out) hb); replace BK356 := qA0.mk (qAL (g := gb356) (o := .cells #[.string a2_0, .string a2_1, .slice A2_2 l2_2.length c2_2, .slice A2_3 l2_3.length c2_3, .slice (some ad357) l2_4.length c2_4, .int .i64 a2_5] 72 (0, 0)) (by refine zf2 ?_ NB356_358; (with_reducible repeat refine st ?_); exact BK356.out) hb); replace BK358 := qA0.mk (qAL (zp2 BK358) hb); replace HB := zB hb; (try clear hb hk); (try clear hb); (try clear ho0); (try clear ho1); (try clear ho2)) | ((with_reducible refine qA9 (N := 9) rfl ?_); refine boxZ 9 #[.string (⟨#[]⟩ : ByteArray), .string (⟨#[]⟩ : ByteArray), .slice none 0 0, .slice none 0 0, .slice none 0 0, .int .i64 0] 72 ?_; intro gb372 hg w19 hbox hb; have BK372 := qA0.mk (hbox); have GW372 := zg w gb372; have GE372 := zg w gb372; have NB355_372 := zl BK355 gb372; have NB372_355 := zu BK355 gb372; have NB356_372 := zl BK356 gb372; have NB372_356 := zu BK356 gb372; have NB358_372 := zl BK358 gb372; have NB372_358 := zu BK358 gb372; replace HO363 := qA0.mk (Kd.qDY (by (with_reducible repeat refine sS ?_); exact HO363.out) hb); replace HO366 := qA0.mk (Kd.qDY (by (with_reducible repeat refine sS ?_); exact HO366.out) hb); replace HO369 := qA0.mk (Kd.qBN (by (with_reducible repeat refine sR ?_); exact HO369.out) hb); replace BK355 := zK BK355 hb; replace BK356 := zK BK356 hb; replace BK358 := zK BK358 hb; replace HB := zB hb; clear hb hbox hg; have hnb20 := NB372_355.out; have hnc20 := NB355_372.out; have hnb21 := NB372_356.out; have hnc21 := NB356_372.out; have hnb22 := NB372_358.out; have hnc22 := NB358_372.out; obtain ⟨hcz23_0, hcz23_1, hcz23_2, hcz23_3, hcz23_4, hcz23_5, hfz23_0, hfz23_1, hfz23_2, hfz23_3, hfz23_4, hfz23_5⟩ := bc6 BK372.out; obtain ⟨Ao24, co24, eo24⟩ := Kd.qF5 HO363.out; subst eo24; obtain ⟨Ao25, co25, eo25⟩ := Kd.qF5 HO366.out; subst eo25; obtain ⟨Ao26, co26, eo26⟩ := Kd.qBV HO369.out; subst eo26))
 go_cut [28] (fun v28 wc => ∃ (kq : Nat) (x28_12 : Bool), v28 = .bool x28_12 ∧ qA0 (qBJ.j1 kq l0 x14_1 l2_4 (l2_4.length : Int) x14_1 x28_12 a1_0 a1_1 a2_0 a2_1 l2_2 l2_3 l2_4 a2_5 ((qB4 l2_4 x14_1).f0) ((qB4 l2_4 x14_1).f1) = some r) ∧ qA0 (kq ≤ k1) ∧ qA0 (Kd.S k66 66 wc w.heap.size (fun k_ => some k_ ≠ ((.slice Ao25 t364.length co25) : Value).ownBlock) (.slice Ao24 t361.length co24) t361) ∧ qA0 (Kd.S k66 66 wc w.heap.size (fun k_ => some k_ ≠ ((.slice Ao24 t361.length co24) : Value).ownBlock) (.slice Ao25 t364.length co25) t364) ∧ qA0 (Kd.R k114 114 wc w.heap.size (fun k_ => k_ ≠ gb355 ∧ k_ ≠ gb358) (.slice Ao26 t367.length co26) t367) ∧ qA0 (wc.heap[gb355]? = some (.cells #[.string a1_0, .string a1_1] 114 (0, 0))) ∧ qA0 (wc.heap[gb356]? = some (.cells #[.string a2_0, .string a2_1, (.slice A2_2 l2_2.length c2_2), (.slice A2_3 l2_3.length c2_3), (.slice (some ad357) l2_4.length c2_4), .int .i64 a2_5] 72 (0, 0))) ∧ qA0 (wc.heap[gb358]? = some (.cells #[.string ((qB4 l2_4 x14_1).f0), .string ((qB4 l2_4 x14_1).f1)] 114 (0, 0))) ∧ qA0 (wc.heap[gb372]? = some (.cells #[.string t359, .string t360, (.slice Ao24 t361.length co24), (.slice Ao25 t364.length co25), (.slice Ao26 t367.length co26), .int .i64 t370] 72 (0, 0))) ∧ qA0 (Below w.heap.size w wc))
 case first =>
  have H := HC13.out
  clear HC13
  by_cases c27 : ((((qB4 l2_4 x14_1).f0).toList) == a1_0.toList && ((((qB4 l2_4 x14_1).f1).toList) == a1_1.toList)) = true
  ·rw [if_pos c27] at H
   have c27b0 : ((((qB4 l2_4 x14_1).f0).toList) == a1_0.toList && ((((qB4 l2_4 x14_1).f1).toList) == a1_1.toList)) = true := c27
   (try (have c27b1 : decide ((((qB4 l2_4 x14_1).f0).toList) = a1_0.toList && ((((qB4 l2_4 x14_1).f1).toList) == a1_1.toList)) = true := by simpa using c27))
   (try (have c27b2 : ((((qB4 l2_4 x14_1).f0).toList) == a1_0.toList && ((((qB4 l2_4 x14_1).f1).toList) == a1_1.toList)) = true := by simpa using c27))
   clear c27
   (first | rw [c27b0] | (simp only [qC9, qCB]; rw [c27b0]) | skip)
   have H' := qA0.mk H
   clear H
   have hnb28 := NB358_355.out
   have hnc28 := NB355_358.out
   have hnb29 := NB358_356.out
   have hnc29 := NB356_358.out
   have hnb30 := NB358_372.out
   have hnc30 := NB372_358.out
   obtain ⟨hcz31_0, hcz31_1, hfz31_0, hfz31_1⟩ := bc2 BK358.out
   have hnb32 := NB355_356.out
   have hnc32 := NB356_355.out
   have hnb33 := NB355_372.out
   have hnc33 := NB372_355.out
   obtain ⟨hcz34_0, hcz34_1, hfz34_0, hfz34_1⟩ := bc2 BK355.out
   go_wp2
   go_meet
   case rel => exact ⟨_, (true), zs, H', ⟨by have := HK1.out; first | omega | exact Nat.le_refl _⟩, ⟨by (with_reducible repeat refine sS ?_); exact Kd.qDQ (Kd.qCH (Kd.qCH (Kd.qCH (Kd.qCH (Kd.qCH (Kd.qCH (Kd.qEJ HO363.out BK372.out (by decide)) (fun _ hk => hk.2) _) (fun _ hk => hk.2) _) (fun _ hk => hk.2) _) (fun _ hk => hk.2) _) (fun _ hk => hk.2) _) (fun _ hk => hk.2) _) (fun _ hk => hk.1)⟩, ⟨by (with_reducible repeat refine sS ?_); exact Kd.qDQ (Kd.qCH (Kd.qCH (Kd.qCH (Kd.qCH (Kd.qCH (Kd.qCH (Kd.qEJ HO366.out BK372.out (by decide)) (fun _ hk => hk.2) _) (fun _ hk => hk.2) _) (fun _ hk => hk.2) _) (fun _ hk => hk.2) _) (fun _ hk => hk.2) _) (fun _ hk => hk.2) _) (fun _ hk => hk.1)⟩, ⟨by (with_reducible repeat refine sR ?_); exact Kd.qB7 (Kd.qAW (Kd.qAW (Kd.qAW (Kd.qAW (Kd.qAW (Kd.qAW (Kd.qBG HO369.out BK372.out (by decide)) (fun _ hk => hk.2) _) (fun _ hk => hk.2) _) (fun _ hk => hk.2) _) (fun _ hk => hk.2) _) (fun _ hk => hk.2) _) (fun _ hk => hk.2) _) (fun _ hk => ⟨hk.1.1.2, hk.1.2⟩)⟩, ⟨by refine zf6 ?_ NB355_372; (with_reducible repeat refine st ?_); exact BK355.out⟩, ⟨by refine zf6 ?_ NB356_372; (with_reducible repeat refine st ?_); exact BK356.out⟩, ⟨by refine zf6 ?_ NB358_372; (with_reducible repeat refine st ?_); exact BK358.out⟩, ⟨zp6 BK372⟩, ⟨zb⟩⟩
  rw [if_neg c27] at H
  have c27b0 : ((((qB4 l2_4 x14_1).f0).toList) == a1_0.toList && ((((qB4 l2_4 x14_1).f1).toList) == a1_1.toList)) = false := by simpa using c27
  (try (have c27b1 : decide ((((qB4 l2_4 x14_1).f0).toList) = a1_0.toList && ((((qB4 l2_4 x14_1).f1).toList) == a1_1.toList)) = false := by simpa using c27))
  (try (have c27b2 : ((((qB4 l2_4 x14_1).f0).toList) == a1_0.toList && ((((qB4 l2_4 x14_1).f1).toList) == a1_1.toList)) = false := by simpa using c27))
  (try (have c27b3 : ¬ ((((qB4 l2_4 x14_1).f0).toList) = a1_0.toList && ((((qB4 l2_4 x14_1).f1).toList) == a1_1.toList)) := by simpa using c27))
  clear c27
  (first | rw [c27b0] | (simp only [qC9, qCB]; rw [c27b0]) | skip)
  have H' := qA0.mk H
  clear H
  have hnb35 := NB358_355.out
  have hnc35 := NB355_358.out
  have hnb36 := NB358_356.out
  have hnc36 := NB356_358.out
  have hnb37 := NB358_372.out
  have hnc37 := NB372_358.out
  obtain ⟨hcz38_0, hcz38_1, hfz38_0, hfz38_1⟩ := bc2 BK358.out
  have hnb39 := NB355_356.out
  have hnc39 := NB356_355.out
  have hnb40 := NB355_372.out
  have hnc40 := NB372_355.out
  obtain ⟨hcz41_0, hcz41_1, hfz41_0, hfz41_1⟩ := bc2 BK355.out
  have hnb42 := NB372_356.out
  have hnc42 := NB356_372.out
  obtain ⟨hcz43_0, hcz43_1, hcz43_2, hcz43_3, hcz43_4, hcz43_5, hfz43_0, hfz43_1, hfz43_2, hfz43_3, hfz43_4, hfz43_5⟩ := bc6 BK372.out
  obtain ⟨hcz44_0, hcz44_1, hcz44_2, hcz44_3, hcz44_4, hcz44_5, hfz44_0, hfz44_1, hfz44_2, hfz44_3, hfz44_4, hfz44_5⟩ := bc6 BK356.out
  go_wp2
  go_meet
  case rel => exact ⟨_, ((t360.toList != a2_1.toList)), zs, H', ⟨by have := HK1.out; first | omega | exact Nat.le_refl _⟩, ⟨by (with_reducible repeat refine sS ?_); exact Kd.qDQ (Kd.qCH (Kd.qCH (Kd.qCH (Kd.qCH (Kd.qCH (Kd.qCH (Kd.qEJ HO363.out BK372.out (by decide)) (fun _ hk => hk.2) _) (fun _ hk => hk.2) _) (fun _ hk => hk.2) _) (fun _ hk => hk.2) _) (fun _ hk => hk.2) _) (fun _ hk => hk.2) _) (fun _ hk => hk.1)⟩, ⟨by (with_reducible repeat refine sS ?_); exact Kd.qDQ (Kd.qCH (Kd.qCH (Kd.qCH (Kd.qCH (Kd.qCH (Kd.qCH (Kd.qEJ HO366.out BK372.out (by decide)) (fun _ hk => hk.2) _) (fun _ hk => hk.2) _) (fun _ hk => hk.2) _) (fun _ hk => hk.2) _) (fun _ hk => hk.2) _) (fun _ hk => hk.2) _) (fun _ hk => hk.1)⟩, ⟨by (with_reducible repeat refine sR ?_); exact Kd.qB7 (Kd.qAW (Kd.qAW (Kd.qAW (Kd.qAW (Kd.qAW (Kd.qAW (Kd.qBG HO369.out BK372.out (by decide)) (fun _ hk => hk.2) _) (fun _ hk => hk.2) _) (fun _ hk => hk.2) _) (fun _ hk => hk.2) _) (fun _ hk => hk.2) _) (fun _ hk => hk.2) _) (fun _ hk => ⟨hk.1.1.2, hk.1.2⟩)⟩, ⟨by refine zf6 ?_ NB355_372; (with_reducible repeat refine st ?_); exact BK355.out⟩, ⟨by refine zf6 ?_ NB356_372; (with_reducible repeat refine st ?_); exact BK356.out⟩, ⟨by refine zf6 ?_ NB358_372; (with_reducible repeat refine st ?_); exact BK358.out⟩, ⟨zp6 BK372⟩, ⟨zb⟩⟩
 clear HC13 c8b0 c9b0 c10b0 hcz17_0 hcz17_1 hcz23_0 hcz23_1 hcz23_2 hcz23_3 hcz23_4 hcz23_5 hfz17_0 hfz17_1 hfz23_0 hfz23_1 hfz23_2 hfz23_3 hfz23_4 hfz23_5 hx357_0 hx357_1 p357 q357
 obtain ⟨kq, x28_12, rfl, HA, HJ12, HO_373002, HO_373003, HO_373004, BK355, BK356, BK358, BK372, HB⟩ := hcut
 obtain _ | kj12 := kq
 ·exact absurd HA.out (by simp [qBJ.j1])
 have H := HA.out
 clear HA
 simp only [qBJ.j1] at H
 by_cases c45 : x28_12 = true
 ·subst c45
  rw [if_pos rfl] at H
  obtain rfl := Option.some.inj H
  go_wp2
  go_ret
  exact ⟨zf, zb⟩
 replace c45 := Bool.eq_false_iff.mpr c45
 subst c45
 rw [zj] at H
 by_cases c46 : 0 ≤ x14_1
 rotate_left
 ·rw [if_neg c46] at H
  cases H
 rw [if_pos c46] at H
 have c46b0 := eq_true c46
 have c46b1 := decide_eq_true c46
 clear c46
 by_cases c47 : x14_1 ≤ (l2_4.length : Int)
 rotate_left
 ·rw [if_neg c47] at H
  cases H
 rw [if_pos c47] at H
 have c47b0 := eq_true c47
 have c47b1 := decide_eq_true c47
 clear c47
 obtain ⟨y373, hy_⟩ : ∃ y_ : List (S114), y_ = (l2_4.take (x14_1 : Int).toNat) := ⟨_, rfl⟩
 replace H : ((qCW.f kj12 y373 ((qB4 l2_4 x14_1).f0) ((qB4 l2_4 x14_1).f1)).bind fun t377 => (if t377 = true then (some 5) else (qBJ.l0 kj12 l0 l2_4 (l2_4.length : Int) (wrap64 (x14_1 + 1)) a1_0 a1_1 a2_0 a2_1 l2_2 l2_3 l2_4 a2_5))) = some r := zr
 have Ny373 := qA0.mk hy_
 clear hy_
 replace H := zi H
 obtain ⟨t377, A480, H⟩ := H
 have A48 := qA0.mk A480
 clear A480
 by_cases c49 : t377 = true
 ·subst c49
  rw [if_pos rfl] at H
  obtain rfl := Option.some.inj H
  try go_wp2
  replace HO_373002 := qA0.mk (Kd.S_drew HO_373002.out)
  replace HO_373003 := qA0.mk (Kd.S_drew HO_373003.out)
  replace HO_373004 := qA0.mk (Kd.qEY HO_373004.out)
  replace BK355 := qA0.mk (qB2 BK355.out)
  replace BK356 := qA0.mk (qB2 BK356.out)
  replace BK358 := qA0.mk (qB2 BK358.out)
  replace BK372 := qA0.mk (qB2 BK372.out)
  replace HB := qA0.mk (qAF HB.out)
  have q51 : (x14_1 : Int) ≤ ((l2_4.length : Int) : Int) := zd
  obtain ⟨i051, hi051, _, hsz51, _⟩ := info_parts info114
  have hroom51 : l2_4.length ≤ c2_4 := HC2_4.out
  have hC51 : Kd.C k114 _ (some ad357) l2_4.length l2_4 := HR2_4.out
  have hcut51 := cut_to (P := Tryz.prog) 70 114 .i64 Tryz.underlying70 hi051 (some ad357) l2_4.length c2_4 x14_1 (zd) q51 hroom51
  have hr51 := Kd.C_take (m := (x14_1 : Int).toNat) hC51 (by omega)
  have hy51 : y373.length = (x14_1 : Int).toNat := (by rw [Ny373.out, List.length_take]; omega)
  rw [← Ny373.out] at hr51
  rw [← hy51] at hcut51
  have HR376 := qA0.mk hr51
  have HC376 := qA0.mk (show y373.length ≤ c2_4 from by omega)
  clear hr51 hC51 hroom51 hi051 hsz51
  have KY51 := qA0.mk hy51
  clear hy51
  replace q51 := eq_true q51
  refine qEA (n := 7) (S := fun w' => w'.cell? ⟨gb356, 0, none⟩ = some (.string a2_0) ∧ w'.cell? ⟨gb356, 1, none⟩ = some (.string a2_1) ∧ w'.cell? ⟨gb356, 2, none⟩ = some (.slice A2_2 l2_2.length c2_2) ∧ w'.cell? ⟨gb356, 3, none⟩ = some (.slice A2_3 l2_3.length c2_3) ∧ w'.cell? ⟨gb356, 4, none⟩ = some (.slice (some ad357) l2_4.length c2_4) ∧ w'.cell? ⟨gb356, 5, none⟩ = some (.int .i64 a2_5) ∧ w'.cell? ⟨gb358, 0, none⟩ = some (.string ((qB4 l2_4 x14_1).f0)) ∧ w'.cell? ⟨gb358, 1, none⟩ = some (.string ((qB4 l2_4 x14_1).f1))) (ds := []) (bs 7 0) (by kernel_rfl) rfl rfl ⟨(qA1 BK356.out 0).trans rfl, (qA1 BK356.out 1).trans rfl, (qA1 BK356.out 2).trans rfl, (qA1 BK356.out 3).trans rfl, (qA1 BK356.out 4).trans rfl, (qA1 BK356.out 5).trans rfl, (qA1 BK358.out 0).trans rfl, (qA1 BK358.out 1).trans rfl⟩ (fun hHeld => ?_)
  generalize wc.drew = w50 at HO_373002 HO_373003 HO_373004 BK355 BK356 BK358 BK372 HB HR376 hHeld ⊢
  refine pure_ (i := 0) (N := some 40) (v := ?_) (a' := ?_) (bs 7 1) rfl rfl (by kernel_rfl) (fun _ _ _ h => h) (Or.inl ⟨by rfl, ?_⟩) ?_ ?_
  rotate_left
  ·intro w'
   go_simp
   with_reducible rfl
  rotate_left
  ·simp only [Act.put, List.setIfInBounds_toArray, List.set_cons_zero, List.set_cons_succ, qC9, qCB]
   rfl
  refine pure_ (i := 2) (N := some 42) (v := ?_) (a' := ?_) (bs 7 5) rfl rfl (by kernel_rfl) (fun _ _ _ h => h) (Or.inl ⟨by rfl, ?_⟩) ?_ ?_
  rotate_left
  ·intro w'
   go_simp
   with_reducible rfl
  rotate_left
  ·simp only [Act.put, List.setIfInBounds_toArray, List.set_cons_zero, List.set_cons_succ, qC9, qCB]
   rfl
  refine take_ (i := 1) (N := some 41) (v := ?_) (a' := ?_) (bs 7 7) rfl rfl (by kernel_rfl) (fun _ _ _ h => h) (Or.inl ⟨by rfl, ?_⟩) hHeld ?_ ?_
  rotate_left
  ·rintro w' ⟨s0, s1, s2, s3, s4, s5, s6, s7⟩
   go_simp
   with_reducible rfl
  rotate_left
  ·simp only [Act.put, List.setIfInBounds_toArray, List.set_cons_zero, List.set_cons_succ, qC9, qCB]
   rfl
  refine pure_ (i := 3) (N := some 43) (v := ?_) (a' := ?_) (bs 7 15) rfl rfl (by kernel_rfl) (fun _ _ _ h => h) (Or.inl ⟨by rfl, ?_⟩) ?_ ?_
  rotate_left
  ·intro w'
   go_simp
   with_reducible rfl
  rotate_left
  ·simp only [Act.put, List.setIfInBounds_toArray, List.set_cons_zero, List.set_cons_succ, qC9, qCB]
   rfl
  refine take_ (i := 4) (N := some 44) (v := ?_) (a' := ?_) (bs 7 31) rfl rfl (by kernel_rfl) (fun _ _ _ h => h) (Or.inl ⟨by rfl, ?_⟩) hHeld ?_ ?_
  rotate_left
  ·rintro w' ⟨s0, s1, s2, s3, s4, s5, s6, s7⟩
   go_simp
   with_reducible rfl
  rotate_left
  ·simp only [Act.put, List.setIfInBounds_toArray, List.set_cons_zero, List.set_cons_succ, qC9, qCB]
   rfl
  refine one_ (i := 5) (N := some 45) (bs 7 63) rfl rfl (by kernel_rfl) (by decide) (fun K hK => ?_)
  refine qEO Tryz.func77 (by kernel_rfl) rfl #[.slice (some ad357) y373.length c2_4, .agg #[.string ((qB4 l2_4 x14_1).f0), .string ((qB4 l2_4 x14_1).f1)]] (by rfl) rfl rfl (by (try simp only [List.map_toArray, List.map_cons, List.map_nil]); first | done | rfl | (simp only [List.length_drop, List.length_take]; rfl)) ?_
  with_reducible refine (qCW.calls kj12 _ _ y373 ((qB4 l2_4 x14_1).f0) ((qB4 l2_4 x14_1).f1) true _ ?side1 ?side2 A48.out).mono ?_
  (case side1 => repeat (first | exact (Kd.qAE HR376.out HB.out) | refine sC ?_))
  (case side2 => exact HC376.out)
  rintro e w52 ⟨rfl, hb⟩
  refine ⟨_, rfl, ?_⟩
  replace HO_373002 := qA0.mk (Kd.qDY (by (with_reducible repeat refine sS ?_); exact HO_373002.out) hb)
  replace HO_373003 := qA0.mk (Kd.qDY (by (with_reducible repeat refine sS ?_); exact HO_373003.out) hb)
  replace HO_373004 := qA0.mk (Kd.qBN (by (with_reducible repeat refine sR ?_); exact HO_373004.out) hb)
  replace BK355 := zK BK355 hb
  replace BK356 := zK BK356 hb
  replace BK358 := zK BK358 hb
  replace BK372 := zK BK372 hb
  replace HB := zB hb
  (try clear hb)
  (try clear hb2)
  (try clear hk)
  (try clear hi)
  refine hK.out _ _ ⟨(qA1 BK356.out 0).trans rfl, (qA1 BK356.out 1).trans rfl, (qA1 BK356.out 2).trans rfl, (qA1 BK356.out 3).trans rfl, (qA1 BK356.out 4).trans rfl, (qA1 BK356.out 5).trans rfl, (qA1 BK358.out 0).trans rfl, (qA1 BK358.out 1).trans rfl⟩ (fun hHeld => ?_)
  clear hK K
  refine qEB ?_
  refine pure_ (i := 6) (N := some 39) (v := ?_) (a' := ?_) (bs 7 127) rfl rfl (by kernel_rfl) (fun _ _ _ h => h) (Or.inl ⟨by rfl, ?_⟩) ?_ ?_
  rotate_left
  ·intro w'
   go_simp
   with_reducible rfl
  rotate_left
  ·simp only [Act.put, List.setIfInBounds_toArray, List.set_cons_zero, List.set_cons_succ, qC9, qCB]
   rfl
  refine qF9 (by kernel_rfl) ?_
  try go_wp2
  go_ret
  exact ⟨zf, zb⟩
 replace c49 := Bool.eq_false_iff.mpr c49
 subst c49
 rw [zj] at H
 have H' := qA0.mk H
 clear H
 try go_wp2
 replace HO_373002 := qA0.mk (Kd.S_drew HO_373002.out)
 replace HO_373003 := qA0.mk (Kd.S_drew HO_373003.out)
 replace HO_373004 := qA0.mk (Kd.qEY HO_373004.out)
 replace BK355 := qA0.mk (qB2 BK355.out)
 replace BK356 := qA0.mk (qB2 BK356.out)
 replace BK358 := qA0.mk (qB2 BK358.out)
 replace BK372 := qA0.mk (qB2 BK372.out)
 replace HB := qA0.mk (qAF HB.out)
 have q54 : (x14_1 : Int) ≤ ((l2_4.length : Int) : Int) := zd
 obtain ⟨i054, hi054, _, hsz54, _⟩ := info_parts info114
 have hroom54 : l2_4.length ≤ c2_4 := HC2_4.out
 have hC54 : Kd.C k114 _ (some ad357) l2_4.length l2_4 := HR2_4.out
 have hcut54 := cut_to (P := Tryz.prog) 70 114 .i64 Tryz.underlying70 hi054 (some ad357) l2_4.length c2_4 x14_1 (zd) q54 hroom54
 have hr54 := Kd.C_take (m := (x14_1 : Int).toNat) hC54 (by omega)
 have hy54 : y373.length = (x14_1 : Int).toNat := (by rw [Ny373.out, List.length_take]; omega)
 rw [← Ny373.out] at hr54
 rw [← hy54] at hcut54
 have HR376 := qA0.mk hr54
 have HC376 := qA0.mk (show y373.length ≤ c2_4 from by omega)
 clear hr54 hC54 hroom54 hi054 hsz54
 have KY54 := qA0.mk hy54
 clear hy54
 replace q54 := eq_true q54
 refine qEA (n := 7) (S := fun w' => w'.cell? ⟨gb356, 0, none⟩ = some (.string a2_0) ∧ w'.cell? ⟨gb356, 1, none⟩ = some (.string a2_1) ∧ w'.cell? ⟨gb356, 2, none⟩ = some (.slice A2_2 l2_2.length c2_2) ∧ w'.cell? ⟨gb356, 3, none⟩ = some (.slice A2_3 l2_3.length c2_3) ∧ w'.cell? ⟨gb356, 4, none⟩ = some (.slice (some ad357) l2_4.length c2_4) ∧ w'.cell? ⟨gb356, 5, none⟩ = some (.int .i64 a2_5) ∧ w'.cell? ⟨gb358, 0, none⟩ = some (.string ((qB4 l2_4 x14_1).f0)) ∧ w'.cell? ⟨gb358, 1, none⟩ = some (.string ((qB4 l2_4 x14_1).f1))) (ds := []) (bs 7 0) (by kernel_rfl) rfl rfl ⟨(qA1 BK356.out 0).trans rfl, (qA1 BK356.out 1).trans rfl, (qA1 BK356.out 2).trans rfl, (qA1 BK356.out 3).trans rfl, (qA1 BK356.out 4).trans rfl, (qA1 BK356.out 5).trans rfl, (qA1 BK358.out 0).trans rfl, (qA1 BK358.out 1).trans rfl⟩ (fun hHeld => ?_)
 generalize wc.drew = w53 at HO_373002 HO_373003 HO_373004 BK355 BK356 BK358 BK372 HB HR376 hHeld ⊢
 refine pure_ (i := 0) (N := some 40) (v := ?_) (a' := ?_) (bs 7 1) rfl rfl (by kernel_rfl) (fun _ _ _ h => h) (Or.inl ⟨by rfl, ?_⟩) ?_ ?_
 rotate_left
 ·intro w'
  go_simp
  with_reducible rfl
 rotate_left
 ·simp only [Act.put, List.setIfInBounds_toArray, List.set_cons_zero, List.set_cons_succ, qC9, qCB]
  rfl
 refine pure_ (i := 2) (N := some 42) (v := ?_) (a' := ?_) (bs 7 5) rfl rfl (by kernel_rfl) (fun _ _ _ h => h) (Or.inl ⟨by rfl, ?_⟩) ?_ ?_
 rotate_left
 ·intro w'
  go_simp
  with_reducible rfl
 rotate_left
 ·simp only [Act.put, List.setIfInBounds_toArray, List.set_cons_zero, List.set_cons_succ, qC9, qCB]
  rfl
 refine take_ (i := 1) (N := some 41) (v := ?_) (a' := ?_) (bs 7 7) rfl rfl (by kernel_rfl) (fun _ _ _ h => h) (Or.inl ⟨by rfl, ?_⟩) hHeld ?_ ?_
 rotate_left
 ·rintro w' ⟨s0, s1, s2, s3, s4, s5, s6, s7⟩
  go_simp
  with_reducible rfl
 rotate_left
 ·simp only [Act.put, List.setIfInBounds_toArray, List.set_cons_zero, List.set_cons_succ, qC9, qCB]
  rfl
 refine pure_ (i := 3) (N := some 43) (v := ?_) (a' := ?_) (bs 7 15) rfl rfl (by kernel_rfl) (fun _ _ _ h => h) (Or.inl ⟨by rfl, ?_⟩) ?_ ?_
 rotate_left
 ·intro w'
  go_simp
  with_reducible rfl
 rotate_left
 ·simp only [Act.put, List.setIfInBounds_toArray, List.set_cons_zero, List.set_cons_succ, qC9, qCB]
  rfl
 refine take_ (i := 4) (N := some 44) (v := ?_) (a' := ?_) (bs 7 31) rfl rfl (by kernel_rfl) (fun _ _ _ h => h) (Or.inl ⟨by rfl, ?_⟩) hHeld ?_ ?_
 rotate_left
 ·rintro w' ⟨s0, s1, s2, s3, s4, s5, s6, s7⟩
  go_simp
  with_reducible rfl
 rotate_left
 ·simp only [Act.put, List.setIfInBounds_toArray, List.set_cons_zero, List.set_cons_succ, qC9, qCB]
  rfl
 refine one_ (i := 5) (N := some 45) (bs 7 63) rfl rfl (by kernel_rfl) (by decide) (fun K hK => ?_)
 refine qEO Tryz.func77 (by kernel_rfl) rfl #[.slice (some ad357) y373.length c2_4, .agg #[.string ((qB4 l2_4 x14_1).f0), .string ((qB4 l2_4 x14_1).f1)]] (by rfl) rfl rfl (by (try simp only [List.map_toArray, List.map_cons, List.map_nil]); first | done | rfl | (simp only [List.length_drop, List.length_take]; rfl)) ?_
 with_reducible refine (qCW.calls kj12 _ _ y373 ((qB4 l2_4 x14_1).f0) ((qB4 l2_4 x14_1).f1) false _ ?side1 ?side2 A48.out).mono ?_
 (case side1 => repeat (first | exact (Kd.qAE HR376.out HB.out) | refine sC ?_))
 (case side2 => exact HC376.out)
 rintro e w55 ⟨rfl, hb⟩
 refine ⟨_, rfl, ?_⟩
 replace HO_373002 := qA0.mk (Kd.qDY (by (with_reducible repeat refine sS ?_); exact HO_373002.out) hb)
 replace HO_373003 := qA0.mk (Kd.qDY (by (with_reducible repeat refine sS ?_); exact HO_373003.out) hb)
 replace HO_373004 := qA0.mk (Kd.qBN (by (with_reducible repeat refine sR ?_); exact HO_373004.out) hb)
 replace BK355 := zK BK355 hb
 replace BK356 := zK BK356 hb
 replace BK358 := zK BK358 hb
 replace BK372 := zK BK372 hb
 replace HB := zB hb
 (try clear hb)
 (try clear hb2)
 (try clear hk)
 (try clear hi)
 refine hK.out _ _ ⟨(qA1 BK356.out 0).trans rfl, (qA1 BK356.out 1).trans rfl, (qA1 BK356.out 2).trans rfl, (qA1 BK356.out 3).trans rfl, (qA1 BK356.out 4).trans rfl, (qA1 BK356.out 5).trans rfl, (qA1 BK358.out 0).trans rfl, (qA1 BK358.out 1).trans rfl⟩ (fun hHeld => ?_)
 clear hK K
 refine qEB ?_
 refine pure_ (i := 6) (N := some 39) (v := ?_) (a' := ?_) (bs 7 127) rfl rfl (by kernel_rfl) (fun _ _ _ h => h) (Or.inl ⟨by rfl, ?_⟩) ?_ ?_
 rotate_left
 ·intro w'
  go_simp
  with_reducible rfl
 rotate_left
 ·simp only [Act.put, List.setIfInBounds_toArray, List.set_cons_zero, List.set_cons_succ, qC9, qCB]
  rfl
 refine qF9 (by kernel_rfl) ?_
 try go_wp2
 go_roundg kj12
 case measure => have := HK1.out; have := HJ12.out; omega
 case rel => exact ⟨(wrap64 (x14_1 + 1)), zs, H', ⟨by have := HK1.out; have := HJ12.out; omega⟩, ⟨zk BK355⟩, ⟨zk BK356⟩, ⟨zb⟩⟩
end
end Go.Proofs.YtpafpefealopoaaGreat.PPopMakes
end
