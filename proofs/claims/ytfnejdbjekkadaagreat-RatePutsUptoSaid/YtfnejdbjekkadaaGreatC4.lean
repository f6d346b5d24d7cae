/- A part of the proof of RatePuts: texts that were printed, words, walks. No condition. -/
import Derived.Test.YtfnejdbjekkadaaGreatC1
import Derived.Test.YtfnejdbjekkadaaGreatC3
set_option linter.unusedVariables false
set_option linter.unusedSimpArgs false
section
namespace Go.Proofs.YtfnejdbjekkadaaGreat.PRatePuts
noncomputable section
open Go.RowKit Go.Proofs.YtfnejdbjekkadaaGreatW.PrintWords Go.Proofs.YtfnejdbjekkadaaGreatW.PrintLast Go.Proofs.YtfnejdbjekkadaaGreatW.PrintMore
set_option maxHeartbeats 8000000
set_option maxRecDepth 100000
mutual
def qAC.l0 : Nat → List (S49) → List (S79) → List Int → List (S79) → Int → Int → Option (Int × Int)
 | 0, _, _, _, _, _, _ => none
 | k + 1, x0, x1, x7, x27, x28, x29 => if x29 < x28 then (if 0 ≤ x29 then (if x29 < (x27.length : Int) then (if ((qA3 x27 x29).f0) = 1 then (qAC.j1 k x0 x1 x7 x29 x27 x28 x29 true ((qA3 x27 x29).f0) ((qA3 x27 x29).f1) ((qA3 x27 x29).f2) ((qA3 x27 x29).f3) ((qA3 x27 x29).f4)) else (if ((qA3 x27 x29).f0) = 2 then (qAC.j1 k x0 x1 x7 x29 x27 x28 x29 true ((qA3 x27 x29).f0) ((qA3 x27 x29).f1) ((qA3 x27 x29).f2) ((qA3 x27 x29).f3) ((qA3 x27 x29).f4)) else (qAC.j1 k x0 x1 x7 x29 x27 x28 x29 (((qA3 x27 x29).f0) == 3) ((qA3 x27 x29).f0) ((qA3 x27 x29).f1) ((qA3 x27 x29).f2) ((qA3 x27 x29).f3) ((qA3 x27 x29).f4)))) else (none)) else (none)) else (if 0 ≤ (wrap64 ((x1.length : Int) - 1)) then (if (wrap64 ((x1.length : Int) - 1)) < (x7.length : Int) then (some (rd x7 (wrap64 ((x1.length : Int) - 1)), 0)) else (none)) else (none))
def qAC.j1 : Nat → List (S49) → List (S79) → List Int → Int → List (S79) → Int → Int → Bool → Int → List Int → Int → Int → ByteArray → Option (Int × Int)
 | 0, _, _, _, _, _, _, _, _, _, _, _, _, _ => none
 | k + 1, x0, x1, x7, x8, x27, x28, x29, x46, x270000, x270001, x270002, x270003, x270004 => if x46 = true then ((qAJ.f k x0 x270000 x270001 x270002 x270003 x270004).bind fun bt270 => (if bt270.2 = 0 then (if 0 ≤ x8 then (if x8 < (x7.length : Int) then (qAC.l0 k x0 x1 (x7.set (x8 : Int).toNat bt270.1) x27 x28 (wrap64 (x29 + 1))) else (none)) else (none)) else (some (0, bt270.2)))) else (qAC.l1 k x0 x1 x7 x8 ([] : List Int) x27 x28 x29 x270001 (x270001.length : Int) 0 x270000 x270001 x270002 x270003 x270004)
def qAC.l1 : Nat → List (S49) → List (S79) → List Int → Int → List Int → List (S79) → Int → Int → List Int → Int → Int → Int → List Int → Int → Int → ByteArray → Option (Int × Int)
 | 0, _, _, _, _, _, _, _, _, _, _, _, _, _, _, _, _ => none
 | k + 1, x0, x1, x7, x8, x12, x27, x28, x29, x61, x62, x63, x270000, x270001, x270002, x270003, x270004 => if x63 < x62 then (if 0 ≤ x63 then (if x63 < (x61.length : Int) then (if 0 ≤ (rd x61 x63) then (if (rd x61 x63) < (x7.length : Int) then (if x12.length < 17592186044416 then (qAC.l1 k x0 x1 x7 x8 (x12 ++ [rd x7 (rd x61 x63)]) x27 x28 x29 x61 x62 (wrap64 (x63 + 1)) x270000 x270001 x270002 x270003 x270004) else (none)) else (none)) else (none)) else (none)) else (none)) else (if x270000 = 16 then ((qAG.f k x0).bind fun t279 => ((qBD.f k t279 x270004).bind fun bt282 => (if bt282.2.2.2.2.2 = true then ((qC7.f bt282.2.1).bind fun t290 => (if t290 = true then ((qC7.f bt282.2.2.1).bind fun t291 => (qAC.j3 k x0 x1 x7 x8 x12 x27 x28 x29 (!t291) x270000 x270001 x270002 x270003 x270004 bt282.1 bt282.2.1 bt282.2.2.1 bt282.2.2.2.1 bt282.2.2.2.2.1)) else (qAC.j3 k x0 x1 x7 x8 x12 x27 x28 x29 true x270000 x270001 x270002 x270003 x270004 bt282.1 bt282.2.1 bt282.2.2.1 bt282.2.2.2.1 bt282.2.2.2.2.1))) else (some (0, 15))))) else ((qA6.f k x270000 x270001 x270002 x270003 x270004 x12 (⟨#[]⟩ : ByteArray) 0 0 false ([] : List (S75))).bind fun bt295 => (if bt295.2 = true then (if 0 ≤ x8 then (if x8 < (x7.length : Int) then (qAC.l0 k x0 x1 (x7.set (x8 : Int).toNat bt295.1) x27 x28 (wrap64 (x29 + 1))) else (none)) else (none)) else (some (0, 8)))))
def qAC.j3 : Nat → List (S49) → List (S79) → List Int → Int → List Int → List (S79) → Int → Int → Bool → Int → List Int → Int → Int → ByteArray → ByteArray → Int → Int → Bool → List (S75) → Option (Int × Int)
 | 0, _, _, _, _, _, _, _, _, _, _, _, _, _, _, _, _, _, _, _ => none
 | k + 1, x0, x1, x7, x8, x12, x27, x28, x29, x98, x270000, x270001, x270002, x270003, x270004, x279000, x279001, x279002, x279003, x279004 => if x98 = true then (some (0, 8)) else ((qA6.f k x270000 x270001 x270002 x270003 x270004 x12 x279000 x279001 x279002 x279003 x279004).bind fun bt292 => (if bt292.2 = true then (if 0 ≤ x8 then (if x8 < (x7.length : Int) then (qAC.l0 k x0 x1 (x7.set (x8 : Int).toNat bt292.1) x27 x28 (wrap64 (x29 + 1))) else (none)) else (none)) else (some (0, 8))))
end
def qAC.f (k : Nat) (l0 : List (S49)) (l1 : List (S79)) : Option (Int × Int) := (qAP.f k l1).bind fun t263 => (if t263 = 0 then (if 0 ≤ (l1.length : Int) then (if ((l1.length : Int) : Int).toNat ≤ 35184372088832 then (qAC.l0 k l0 l1 (List.replicate ((l1.length : Int) : Int).toNat 0) l1 (l1.length : Int) 0) else (none)) else (none)) else (some (0, t263)))
theorem qAC.qBT : ∀ k, (∀ y0 y1 y2 y3 y4 y5, LeO (qAC.l0 k y0 y1 y2 y3 y4 y5) (qAC.l0 (k + 1) y0 y1 y2 y3 y4 y5)) ∧ (∀ y0 y1 y2 y3 y4 y5 y6 y7 y8 y9 y10 y11 y12, LeO (qAC.j1 k y0 y1 y2 y3 y4 y5 y6 y7 y8 y9 y10 y11 y12) (qAC.j1 (k + 1) y0 y1 y2 y3 y4 y5 y6 y7 y8 y9 y10 y11 y12)) ∧ (∀ y0 y1 y2 y3 y4 y5 y6 y7 y8 y9 y10 y11 y12 y13 y14 y15, LeO (qAC.l1 k y0 y1 y2 y3 y4 y5 y6 y7 y8 y9 y10 y11 y12 y13 y14 y15) (qAC.l1 (k + 1) y0 y1 y2 y3 y4 y5 y6 y7 y8 y9 y10 y11 y12 y13 y14 y15)) ∧ (∀ y0 y1 y2 y3 y4 y5 y6 y7 y8 y9 y10 y11 y12 y13 y14 y15 y16 y17 y18, LeO (qAC.j3 k y0 y1 y2 y3 y4 y5 y6 y7 y8 y9 y10 y11 y12 y13 y14 y15 y16 y17 y18) (qAC.j3 (k + 1) y0 y1 y2 y3 y4 y5 y6 y7 y8 y9 y10 y11 y12 y13 y14 y15 y16 y17 y18))
 | 0 => ⟨fun _ _ _ _ _ _ r h => by simp [qAC.l0] at h, fun _ _ _ _ _ _ _ _ _ _ _ _ _ r h => by simp [qAC.j1] at h, fun _ _ _ _ _ _ _ _ _ _ _ _ _ _ _ _ r h => by simp [qAC.l1] at h, fun _ _ _ _ _ _ _ _ _ _ _ _ _ _ _ _ _ _ _ r h => by simp [qAC.j3] at h⟩
 | k + 1 => by
  obtain ⟨ih0, ih1, ih2, ih3⟩ := qAC.qBT k
  refine ⟨?_, ?_, ?_, ?_⟩
  ·intro y0 y1 y2 y3 y4 y5
   unfold qAC.l0
   have im0 := @qAP.mono
   have im1 := @qAG.mono
   have im2 := @qBD.mono
   have im3 := @qA6.mono
   have im4 := @qAJ.mono
   exact zm
  ·intro y0 y1 y2 y3 y4 y5 y6 y7 y8 y9 y10 y11 y12
   unfold qAC.j1
   have im0 := @qAP.mono
   have im1 := @qAG.mono
   have im2 := @qBD.mono
   have im3 := @qA6.mono
   have im4 := @qAJ.mono
   exact zm
  ·intro y0 y1 y2 y3 y4 y5 y6 y7 y8 y9 y10 y11 y12 y13 y14 y15
   unfold qAC.l1
   have im0 := @qAP.mono
   have im1 := @qAG.mono
   have im2 := @qBD.mono
   have im3 := @qA6.mono
   have im4 := @qAJ.mono
   exact zm
  ·intro y0 y1 y2 y3 y4 y5 y6 y7 y8 y9 y10 y11 y12 y13 y14 y15 y16 y17 y18
   unfold qAC.j3
   have im0 := @qAP.mono
   have im1 := @qAG.mono
   have im2 := @qBD.mono
   have im3 := @qA6.mono
   have im4 := @qAJ.mono
   exact zm
theorem qAC.mono : ∀ a0 a1 k, LeO (qAC.f k a0 a1) (qAC.f (k + 1) a0 a1) := by
 intro a0 a1 k
 obtain ⟨ih0, ih1, ih2, ih3⟩ := qAC.qBT k
 unfold qAC.f
 have im0 := @qAP.mono
 have im1 := @qAG.mono
 have im2 := @qBD.mono
 have im3 := @qA6.mono
 have im4 := @qAJ.mono
 exact zm
def qAC.T22 : Bool × List (List Nat × List Nat) := (true, [([], []), ([0], [0]), ([], []), ([2], [2]), ([1, 3, 1], [1, 3]), ([4], [4]), ([5], [5]), ([5], [5]), ([6, 4, 0, 1, 2, 3, 4, 5, 6], [6]), ([7, 8, 0, 1, 2, 3, 4, 5, 6, 7, 8], [7])])
def qAC.B22 : List Nat := [0, 1, 0, 4, 15, 31, 63, 63, 127, 511]
theorem qAC.tab22 : rtab .any (opsOf Tryz.f47 22) = qAC.T22 := by kernel_rfl
theorem qAC.bits22 : qEK qAC.T22.2 qAC.B22 = true := by kernel_rfl
theorem qAC.calls (k : Nat) (A0 : Option Addr) (c0 : Nat) (l0 : List (S49)) (A1 : Option Addr) (c1 : Nat) (l1 : List (S79)) (r1 : Int) (r2 : Int) (w : World) (hr0 : Kd.C k49 w A0 l0.length l0) (hc0 : l0.length ≤ c0) (hr1 : Kd.C k79 w A1 l1.length l1) (hc1 : l1.length ≤ c1) (h : qAC.f k l0 l1 = some (r1, r2)) :
  Calls Tryz.prog 47 #[.slice A0 l0.length c0, .slice A1 l1.length c1] w fun e w' => e = .returned (.tuple #[.int .i64 r1, .int .i64 r2]) ∧ Below w.heap.size w w' := by
 have hu79 := Tryz.underlying79
 have hu73 := Tryz.underlying73
 have HR0 := zq hr0
 have HC0 := zq hc0
 clear hr0 hc0
 have HR1 := zq hr1
 have HC1 := zq hc1
 clear hr1 hc1
 have HB := zq (Below.refl w.heap.size w)
 have H := h
 unfold qAC.f at H
 clear h
 replace H := zi H
 obtain ⟨t263, A30, H⟩ := H
 have A3 := zq A30
 clear A30
 obtain ⟨-, c4b0, c4b1, H⟩ | ⟨c4, c4b0, c4b1, H⟩ := y4 H
 rotate_left
 ·simp only [Option.some.injEq, Prod.mk.injEq] at H
  obtain ⟨rfl, rfl⟩ := H
  go_enter Tryz.func47, Tryz.ntmps47
  go_wp2_with ((refine qBY (some 20) Tryz.func67 #[.slice A1 l1.length c1] ?_; (with_reducible refine (qAP.calls k _ _ l1 t263 _ ?side1 ?side2 A3.out).mono ?_); (case side1 => repeat (first | exact HR1.out | refine sC ?_)); (case side2 => exact HC1.out); rintro e w125 ⟨rfl, hb⟩; refine ⟨_, rfl, ?_⟩; replace HB := zB hb; (try clear hb hk); (try clear hb)))
  go_ret2
  exact ⟨zf, zb⟩
 obtain ⟨c5, -, H⟩ := y1 H
 have c5b0 := eq_true c5
 have c5b1 := decide_eq_true c5
 clear c5
 obtain ⟨c6, -, H⟩ := y1 H
 have c6b0 := eq_true c6
 have c6b1 := decide_eq_true c6
 clear c6
 obtain ⟨y264, hy_⟩ : ∃ y_ : List Int, y_ = (List.replicate ((l1.length : Int) : Int).toNat 0) := ⟨_, rfl⟩
 replace H : (qAC.l0 k l0 l1 y264 l1 (l1.length : Int) 0) = some (r1, r2) := zr
 have Ny264 := zq hy_
 clear hy_
 have H' := zq H
 clear H
 go_enter Tryz.func47, Tryz.ntmps47
 go_wp2_with (first | (refine qBY (some 20) Tryz.func67 #[.slice A1 l1.length c1] ?_; (with_reducible refine (qAP.calls k _ _ l1 t263 _ ?side1 ?side2 A3.out).mono ?_); (case side1 => repeat (first | exact HR1.out | refine sC ?_)); (case side2 => exact HC1.out); rintro e w7 ⟨rfl, hb⟩; refine ⟨_, rfl, ?_⟩; replace HB := zB hb; (try clear hb hk); (try clear hb)) | ((with_reducible refine qAS (N := 26) rfl ?_); refine Kd.R_make (Kd.int .i64) _ 3 rfl (N := 26) rfl 77 _ _ rfl (l1.length : Int) rfl rfl Tryz.underlying77 (.int .i64 0) 8 info3 rfl (by decide) (by omega) 0 (ok := fun _ => True) (okp := fun _ => True) rfl (fun _ hk => hk) trivial (zd) (Nat.le_trans (Nat.mul_le_mul_right _ (zd : (l1.length : Int).toNat ≤ 35184372088832)) (by omega)) (Below.refl _ _) (Nat.le_refl _) ?_; intro v265 w8 ho9 hb hg_ hnew_; clear hg_ hnew_; (first | rw [← Ny264.out] at ho9 | (simp only [Int.reduceToNat] at ho9; rw [← Ny264.out] at ho9)); have HO266 := zq (Kd.qC3 ho9 (qAH zb)); replace HB := zB hb; clear hb ho9))
 go_loopg [29] k (fun kq v29 w' => ∃ (x7_1 : List Int) (x29_1 : Int), v29 = .int .i64 x29_1 ∧ qA0 (qAC.l0 kq l0 l1 x7_1 l1 (l1.length : Int) x29_1 = some (r1, r2)) ∧ qA0 (kq ≤ k) ∧ qA0 (Kd.R (Kd.int .i64) 3 w' w.heap.size (fun _ => True) v265 x7_1) ∧ qA0 (Below w.heap.size w w'))
 case atStart => exact ⟨(y264), (0), zs, H', ⟨Nat.le_refl _⟩, zR HO266, ⟨zb⟩⟩
 clear H' c4b0 c4b1 c5b0 c5b1 c6b0 c6b1
 obtain ⟨x7_1, x29_1, rfl, HA, HK1, HO_7, HB⟩ := hrel
 obtain _ | k1 := gk
 ·exact absurd HA.out (by simp [qAC.l0])
 have H := HA.out
 clear HA
 simp only [qAC.l0] at H
 obtain ⟨-, c10b0, H⟩ | ⟨-, c10b0, H⟩ := y3 H
 rotate_left
 ·obtain ⟨ji121, hji121⟩ : ∃ j_ : Int, (wrap64 ((l1.length : Int) - 1)) = j_ := ⟨_, rfl⟩
  replace H : (if 0 ≤ (ji121) then (if (ji121) < (x7_1.length : Int) then (some (rd x7_1 (ji121), 0)) else (none)) else (none)) = some (r1, r2) := by first | (rw [hji121] at H; exact H) | (simp only [hji121] at H ⊢; exact H)
  have hji121w : (IntKind.i64.wrap ((l1.length : Int) - 1)) = ji121 := (qCI _).trans hji121
  obtain ⟨-, c122b0, H⟩ := y1 H
  obtain ⟨-, c123b0, H⟩ := y1 H
  simp only [Option.some.injEq, Prod.mk.injEq] at H
  obtain ⟨rfl, rfl⟩ := H
  obtain ⟨Ao124, co124, eo124⟩ := Kd.qBX HO_7.out
  subst eo124
  obtain ⟨p267, q267, ad267, e267, hx267_0⟩ := yp (Kd.qCB (Kd.qAR HO_7.out).2.2 (ji121))
  cases e267
  go_wp2
  go_ret2
  exact ⟨by first | rfl | (simp [qD9, qD8] <;> rfl) | (simp only [← hji121]; first | rfl | (simp [qD9, qD8] <;> rfl)) | (simp [*, qD9, qD8] <;> rfl), zb⟩
 obtain ⟨-, c11b0, H⟩ := y1 H
 obtain ⟨-, c12b0, H⟩ := y1 H
 have HC13 := zq H
 clear H
 obtain ⟨p268, q268, ad268, A268_1, c268_1, e268, hx268_0, hx268_1, hx268_2, hx268_3, hx268_4, hl268_1, hi268_1⟩ := yp (at_T79 HR1.out x29_1)
 cases e268
 (try replace hx268_0 := zh hx268_0)
 replace hx268_1 := zh hx268_1
 replace hx268_2 := zh hx268_2
 replace hx268_3 := zh hx268_3
 replace hx268_4 := zh hx268_4
 have HR268_1 := zq hi268_1
 have HC268_1 := zq hl268_1
 clear hi268_1 hl268_1
 go_upto_region 8 with ((refine boxY 9 #[.int .i64 0, .slice none 0 0, .int .i64 0, .int .i64 0, .string (⟨#[]⟩ : ByteArray)] 79 ?_; intro gb269 hg w14 BK269 hb; have GW269 := zg w gb269; replace HO_7 := zq (Kd.qBM (by (with_reducible repeat refine sR ?_); exact HO_7.out) hb); replace HB := zB hb; clear hb hg; have hcz15 := bc5 BK269.out))
 go_cut [46] (fun v46 wc => ∃ (kq : Nat) (x46_12 : Bool), v46 = .bool x46_12 ∧ qA0 (qAC.j1 kq l0 l1 x7_1 x29_1 l1 (l1.length : Int) x29_1 x46_12 ((qA3 l1 x29_1).f0) ((qA3 l1 x29_1).f1) ((qA3 l1 x29_1).f2) ((qA3 l1 x29_1).f3) ((qA3 l1 x29_1).f4) = some (r1, r2)) ∧ qA0 (kq ≤ k1) ∧ qA0 (Kd.R (Kd.int .i64) 3 wc w.heap.size (fun _ => True) v265 x7_1) ∧ qA0 (wc.heap[gb269]? = some (.cells #[.int .i64 ((qA3 l1 x29_1).f0), (.slice A268_1 ((qA3 l1 x29_1).f1).length c268_1), .int .i64 ((qA3 l1 x29_1).f2), .int .i64 ((qA3 l1 x29_1).f3), .string ((qA3 l1 x29_1).f4)] 79 (0, 0))) ∧ qA0 (Below w.heap.size w wc))
 case first =>
  have H := HC13.out
  clear HC13
  obtain ⟨-, c16b0, c16b1, H⟩ | ⟨c16, c16b0, c16b1, H⟩ := y4 H
  ·(first | rw [c16b0] | (simp only [qCI, qCO]; rw [c16b0]) | skip)
   have H' := zq H
   clear H
   have hcz17 := bc5 BK269.out
   go_wp2
   go_meet
   case rel => exact ⟨_, (true), zs, H', ⟨by have := HK1.out; first | omega | exact Nat.le_refl _⟩, ⟨by (with_reducible repeat refine sR ?_); exact Kd.qB3 (Kd.qAW (Kd.qAW (Kd.qAW (Kd.qAW (Kd.qAW (Kd.qBW HO_7.out BK269.out (by decide)) (fun _ hk => hk.2) _) (fun _ hk => hk.2) _) (fun _ hk => hk.2) _) (fun _ hk => hk.2) _) (fun _ hk => hk.2) _) (fun _ hk => trivial)⟩, ⟨zp5 BK269⟩, ⟨zb⟩⟩
  (first | rw [c16b0] | (simp only [qCI, qCO]; rw [c16b0]) | skip)
  obtain ⟨-, c18b0, c18b1, H⟩ | ⟨c18, c18b0, c18b1, H⟩ := y4 H
  rotate_left
  ·have H' := zq H
   clear H
   have hcz20 := bc5 BK269.out
   go_wp2
   go_meet
   case rel => exact ⟨_, ((((qA3 l1 x29_1).f0) == 3)), zs, H', ⟨by have := HK1.out; first | omega | exact Nat.le_refl _⟩, ⟨by (with_reducible repeat refine sR ?_); exact Kd.qB3 (Kd.qAW (Kd.qAW (Kd.qAW (Kd.qAW (Kd.qAW (Kd.qBW HO_7.out BK269.out (by decide)) (fun _ hk => hk.2) _) (fun _ hk => hk.2) _) (fun _ hk => hk.2) _) (fun _ hk => hk.2) _) (fun _ hk => hk.2) _) (fun _ hk => trivial)⟩, ⟨zp5 BK269⟩, ⟨zb⟩⟩
  have H' := zq H
  clear H
  have hcz19 := bc5 BK269.out
  go_wp2
  go_meet
  case rel => exact ⟨_, (true), zs, H', ⟨by have := HK1.out; first | omega | exact Nat.le_refl _⟩, ⟨by (with_reducible repeat refine sR ?_); exact Kd.qB3 (Kd.qAW (Kd.qAW (Kd.qAW (Kd.qAW (Kd.qAW (Kd.qBW HO_7.out BK269.out (by decide)) (fun _ hk => hk.2) _) (fun _ hk => hk.2) _) (fun _ hk => hk.2) _) (fun _ hk => hk.2) _) (fun _ hk => hk.2) _) (fun _ hk => trivial)⟩, ⟨zp5 BK269⟩, ⟨zb⟩⟩
 clear HC13 c10b0 c11b0 c12b0 hcz15 hx268_0 hx268_1 hx268_2 hx268_3 hx268_4 p268 q268
 obtain ⟨kq, x46_12, rfl, HA, HJ12, HO_7, BK269, HB⟩ := hcut
 obtain _ | kj12 := kq
 ·exact absurd HA.out (by simp [qAC.j1])
 have H := HA.out
 clear HA
 simp only [qAC.j1] at H
 by_cases c21 : x46_12 = true
 ·subst c21
  rw [if_pos rfl] at H
  replace H := zi H
  obtain ⟨⟨t270, t271⟩, A220, H⟩ := H
  dsimp only at H
  have A22 := zq A220
  clear A220
  obtain ⟨-, c23b0, c23b1, H⟩ | ⟨c23, c23b0, c23b1, H⟩ := y4 H
  rotate_left
  ·simp only [Option.some.injEq, Prod.mk.injEq] at H
   obtain ⟨rfl, rfl⟩ := H
   have hcz31 := bc5 BK269.out
   go_wp2_with ((refine qBY (some 50) Tryz.func68 #[.slice A0 l0.length c0, .agg #[.int .i64 ((qA3 l1 x29_1).f0), .slice A268_1 ((qA3 l1 x29_1).f1).length c268_1, .int .i64 ((qA3 l1 x29_1).f2), .int .i64 ((qA3 l1 x29_1).f3), .string ((qA3 l1 x29_1).f4)]] ?_; (with_reducible refine (qAJ.calls kj12 _ _ l0 ((qA3 l1 x29_1).f0) _ _ ((qA3 l1 x29_1).f1) ((qA3 l1 x29_1).f2) ((qA3 l1 x29_1).f3) ((qA3 l1 x29_1).f4) t270 t271 _ ?side1 ?side2 ?side3 ?side4 A22.out).mono ?_); (case side1 => repeat (first | exact (Kd.qAB HR0.out HB.out) | refine sC ?_)); (case side2 => exact HC0.out); (case side3 => repeat (first | exact (Kd.qAB HR268_1.out HB.out) | refine sC ?_)); (case side4 => exact HC268_1.out); rintro e w32 ⟨rfl, hb⟩; refine ⟨_, rfl, ?_⟩; replace HO_7 := zq (Kd.qBM (by (with_reducible repeat refine sR ?_); exact HO_7.out) hb); replace BK269 := zK BK269 hb; replace HB := zB hb; (try clear hb hk); (try clear hb)))
   go_ret2
   exact ⟨zf, zb⟩
  obtain ⟨-, c24b0, H⟩ := y1 H
  obtain ⟨-, c25b0, H⟩ := y1 H
  obtain ⟨y272, hy_⟩ : ∃ y_ : List Int, y_ = (x7_1.set (x29_1 : Int).toNat t270) := ⟨_, rfl⟩
  replace H : (qAC.l0 kj12 l0 l1 y272 l1 (l1.length : Int) (wrap64 (x29_1 + 1))) = some (r1, r2) := zr
  have Ny272 := zq hy_
  clear hy_
  have H' := zq H
  clear H
  have hcz27 := bc5 BK269.out
  go_wp2_with (first | (refine qBY (some 50) Tryz.func68 #[.slice A0 l0.length c0, .agg #[.int .i64 ((qA3 l1 x29_1).f0), .slice A268_1 ((qA3 l1 x29_1).f1).length c268_1, .int .i64 ((qA3 l1 x29_1).f2), .int .i64 ((qA3 l1 x29_1).f3), .string ((qA3 l1 x29_1).f4)]] ?_; (with_reducible refine (qAJ.calls kj12 _ _ l0 ((qA3 l1 x29_1).f0) _ _ ((qA3 l1 x29_1).f1) ((qA3 l1 x29_1).f2) ((qA3 l1 x29_1).f3) ((qA3 l1 x29_1).f4) t270 t271 _ ?side1 ?side2 ?side3 ?side4 A22.out).mono ?_); (case side1 => repeat (first | exact (Kd.qAB HR0.out HB.out) | refine sC ?_)); (case side2 => exact HC0.out); (case side3 => repeat (first | exact (Kd.qAB HR268_1.out HB.out) | refine sC ?_)); (case side4 => exact HC268_1.out); rintro e w28 ⟨rfl, hb⟩; refine ⟨_, rfl, ?_⟩; replace HO_7 := zq (Kd.qBM (by (with_reducible repeat refine sR ?_); exact HO_7.out) hb); replace BK269 := zK BK269 hb; replace HB := zB hb; (try clear hb hk); (try clear hb); have p26 : 0 ≤ (x29_1 : Int) := zd; have q26 : (x29_1 : Int) < ((x7_1.length : Int) : Int) := zd; obtain ⟨go26, co26, eo26, gb26, gl26, cl26, HG26⟩ := Kd.R_form HO_7.out (by omega); (first | cases eo26 | (injection eo26 with ea_ en_ ec_; (first | subst ea_ | (injection ea_ with ea_; subst ea_)); subst ec_; clear en_)); have GB26 := zq gb26; have GG26 := zq HG26; clear gb26 gl26 HG26; obtain ⟨hx26_0, hf26_0⟩ := Kd.R_celln 0 HO_7.out (x29_1 : Int) p26 q26; replace p26 := eq_true p26; replace q26 := eq_true q26; obtain ⟨hy29_, hz29_⟩ := Kd.R_celln 0 HO_7.out (x29_1 : Int) (zd) (zd); have HP29 := Kd.R_putg HO_7.out (x29_1 : Int) t270) | ((with_reducible refine qC8 (t := 3) (p := 59) rfl ?_); refine qDT (t := 3) (p := 59) (v := ?vo_w30) (w1 := (w28.setCell ⟨go26, (x29_1 : Int).toNat, none⟩ (.int .i64 t270))) ?hg ?ho ?hn ?hr ?_; (case ho => rfl); (case hg => rfl); (case hn => rfl); (case hr => first | (go_simp; done) | (go_simp; rfl)); intro w30 hw; have hg : w28.grownBy w30 (some go26) := (by rw [hw]; exact HP29.2); have hp_ : Kd.R (Kd.int .i64) 3 w30 w.heap.size (fun _ => True) (.slice (some ⟨go26, 0, none⟩) x7_1.length co26) y272 := (by rw [hw, Ny272.out]; exact HP29.1); clear HP29; replace BK269 := zq (qAF (g := gb269) (o := .cells #[.int .i64 ((qA3 l1 x29_1).f0), .slice A268_1 ((qA3 l1 x29_1).f1).length c268_1, .int .i64 ((qA3 l1 x29_1).f2), .int .i64 ((qA3 l1 x29_1).f3), .string ((qA3 l1 x29_1).f4)] 79 (0, 0)) (zk BK269) hg (Kd.R_ne HO_7.out BK269.out (by decide))); replace HO_7 := zq (hp_); replace HB := zq ((by rw [hw]; exact qDW (HB.out) GB26.out : Below w.heap.size w w30)); clear hg hw hp_))
  go_roundg kj12
  case measure => have := HK1.out; have := HJ12.out; omega
  case rel => exact ⟨(y272), (wrap64 (x29_1 + 1)), zs, H', ⟨by have := HK1.out; have := HJ12.out; omega⟩, zR HO_7, ⟨zb⟩⟩
 replace c21 := Bool.eq_false_iff.mpr c21
 subst c21
 rw [zj] at H
 have H' := zq H
 clear H
 have hcz33 := bc5 BK269.out
 go_wp2
 go_loopg [12, 63] kj12 (fun kq v12 v63 w' => ∃ (x12_3 : List Int) (x63_3 : Int), v63 = .int .i64 x63_3 ∧ qA0 (qAC.l1 kq l0 l1 x7_1 x29_1 x12_3 l1 (l1.length : Int) x29_1 ((qA3 l1 x29_1).f1) (((qA3 l1 x29_1).f1).length : Int) x63_3 ((qA3 l1 x29_1).f0) ((qA3 l1 x29_1).f1) ((qA3 l1 x29_1).f2) ((qA3 l1 x29_1).f3) ((qA3 l1 x29_1).f4) = some (r1, r2)) ∧ qA0 (kq ≤ kj12) ∧ qA0 (Kd.R (Kd.int .i64) 3 w' w.heap.size (fun k_ => some k_ ≠ (v12 : Value).ownBlock) v265 x7_1) ∧ qA0 (Kd.R (Kd.int .i64) 3 w' w.heap.size (fun k_ => some k_ ≠ (v265 : Value).ownBlock) v12 x12_3) ∧ qA0 (w'.heap[gb269]? = some (.cells #[.int .i64 ((qA3 l1 x29_1).f0), (.slice A268_1 ((qA3 l1 x29_1).f1).length c268_1), .int .i64 ((qA3 l1 x29_1).f2), .int .i64 ((qA3 l1 x29_1).f3), .string ((qA3 l1 x29_1).f4)] 79 (0, 0))) ∧ qA0 (Below w.heap.size w w'))
 case atStart => exact ⟨(([] : List Int)), (0), zs, H', ⟨Nat.le_refl _⟩, ⟨by (with_reducible repeat refine sR ?_); exact Kd.qB3 HO_7.out (fun _ hk => (by simp [Value.ownBlock]))⟩, ⟨by first | exact Kd.R_nil _ _ _ _ _ | exact Kd.N_nil _ _ _ _ _ | exact Kd.V_nil _ _ _ _ _ | exact Kd.Q_nil _ _ _ _ _ | exact Kd.S_nil _ _ _ _ _⟩, ⟨zk BK269⟩, ⟨zb⟩⟩
 clear H' hcz33
 obtain ⟨x12_3, x63_3, rfl, HA, HK3, HO_7, HO_12, BK269, HB⟩ := hrel
 obtain _ | k3 := gk
 ·exact absurd HA.out (by simp [qAC.l1])
 have H := HA.out
 clear HA
 simp only [qAC.l1] at H
 obtain ⟨-, c34b0, H⟩ | ⟨-, c34b0, H⟩ := y3 H
 ·obtain ⟨-, c35b0, H⟩ := y1 H
  obtain ⟨-, c36b0, H⟩ := y1 H
  obtain ⟨-, c37b0, H⟩ := y1 H
  obtain ⟨-, c38b0, H⟩ := y1 H
  obtain ⟨c39, -, H⟩ := y1 H
  have LMc39 := zq c39
  clear c39
  obtain ⟨y275, hy_⟩ : ∃ y_ : List Int, y_ = (x12_3 ++ [rd x7_1 (rd ((qA3 l1 x29_1).f1) x63_3)]) := ⟨_, rfl⟩
  replace H : (qAC.l1 k3 l0 l1 x7_1 x29_1 y275 l1 (l1.length : Int) x29_1 ((qA3 l1 x29_1).f1) (((qA3 l1 x29_1).f1).length : Int) (wrap64 (x63_3 + 1)) ((qA3 l1 x29_1).f0) ((qA3 l1 x29_1).f1) ((qA3 l1 x29_1).f2) ((qA3 l1 x29_1).f3) ((qA3 l1 x29_1).f4)) = some (r1, r2) := zr
  have Ny275 := zq hy_
  clear hy_
  have H' := zq H
  clear H
  obtain ⟨p273, q273, ad273, e273, hx273_0⟩ := yp (Kd.qCB HR268_1.out x63_3)
  cases e273
  (try replace hx273_0 := zh hx273_0)
  obtain ⟨Ao40, co40, eo40⟩ := Kd.qBX HO_7.out
  subst eo40
  obtain ⟨p274, q274, ad274, e274, hx274_0⟩ := yp (Kd.qCB (Kd.qAR HO_7.out).2.2 (rd ((qA3 l1 x29_1).f1) x63_3))
  cases e274
  go_wp2_with (((with_reducible refine qDV (b := .append) (xs := #[.tmp 67, .tmp 72]) rfl ?_); at_builtin; refine Kd.R_append (Kd.int .i64) (w0 := w) w.heap.size rfl (.tmp 67) (.tmp 72) 77 3 (.int .i64 0) 8 rfl Tryz.underlying77 info3 rfl (by decide) (by omega) u12 x12_3 (rd x7_1 (rd ((qA3 l1 x29_1).f1) x63_3)) [.int .i64 (rd x7_1 (rd ((qA3 l1 x29_1).f1) x63_3))] (fun k_ => some k_ ≠ (.slice (some ad274) x7_1.length co40 : Value).ownBlock) (fun _ => False) rfl rfl ?aP (fun _ hk => hk.elim) ?aF ?aO ?aB ?aS ?aL ?_; (case aP => exact rfl); (case aB => exact zb); (case aF => exact (fun k_ hk => Kd.fresh' (Kd.R_lt (by (with_reducible repeat refine sR ?_); exact HO_7.out)) k_ hk)); (case aO => exact (by (with_reducible repeat refine sR ?_); exact HO_12.out)); (case aS => exact (qAH zb)); (case aL => have := LMc39.out; omega); intro v276 w41 ho hb hg hat; rw [← Ny275.out] at ho; have HO277 := zq (ho); replace HO_7 := zq (Kd.R_after (ok := (fun _ => True)) (by (with_reducible repeat refine sR ?_); exact Kd.qB3 HO_7.out (fun _ hk => ⟨trivial, hk⟩)) hg hat); replace BK269 := zq (qAF (g := gb269) (o := .cells #[.int .i64 ((qA3 l1 x29_1).f0), .slice (some ad273) ((qA3 l1 x29_1).f1).length c268_1, .int .i64 ((qA3 l1 x29_1).f2), .int .i64 ((qA3 l1 x29_1).f3), .string ((qA3 l1 x29_1).f4)] 79 (0, 0)) (zk BK269) hg (Kd.R_ne HO_12.out BK269.out (by decide))); replace HB := zq (hb); clear HO_12; clear ho hb hg hat))
  go_roundg k3
  case measure => have := HK1.out; have := HJ12.out; have := HK3.out; omega
  case rel => exact ⟨(y275), (wrap64 (x63_3 + 1)), zs, H', ⟨by have := HK1.out; have := HJ12.out; have := HK3.out; omega⟩, ⟨by (with_reducible repeat refine sR ?_); exact Kd.qB3 HO_7.out (fun _ hk => hk.2)⟩, zR HO277, ⟨zk BK269⟩, ⟨zb⟩⟩
 obtain ⟨-, c42b0, c42b1, H⟩ | ⟨c42, c42b0, c42b1, H⟩ := y4 H
 rotate_left
 ·replace H := zi H
  obtain ⟨⟨t295, t296⟩, A1020, H⟩ := H
  dsimp only at H
  have A102 := zq A1020
  clear A1020
  by_cases c103 : t296 = true
  rotate_left
  ·replace c103 := Bool.eq_false_iff.mpr c103
   subst c103
   rw [zj] at H
   simp only [Option.some.injEq, Prod.mk.injEq] at H
   obtain ⟨rfl, rfl⟩ := H
   go_wp2_with (first | (refine boxY 15 #[.string (⟨#[]⟩ : ByteArray), .int .i64 0, .int .i64 0, .bool false, .slice none 0 0] 73 ?_; intro gb278 hg w115 BK278 hb; have GW278 := zg w gb278; have NB269_278 := zl BK269 gb278; have NB278_269 := zu BK269 gb278; replace HO_7 := zq (Kd.qBM (by (with_reducible repeat refine sR ?_); exact HO_7.out) hb); replace HO_12 := zq (Kd.qBM (by (with_reducible repeat refine sR ?_); exact HO_12.out) hb); replace BK269 := zK BK269 hb; replace HB := zB hb; clear hb hg; have hnb116 := NB278_269.out; have hnc116 := NB269_278.out; have hcz117 := bc5 BK278.out; have hcz118 := bc5 BK269.out; obtain ⟨Ao119, co119, eo119⟩ := Kd.qBX HO_12.out; subst eo119) | (refine qBY (some 103) Tryz.func72 #[.agg #[.int .i64 ((qA3 l1 x29_1).f0), .slice A268_1 ((qA3 l1 x29_1).f1).length c268_1, .int .i64 ((qA3 l1 x29_1).f2), .int .i64 ((qA3 l1 x29_1).f3), .string ((qA3 l1 x29_1).f4)], .slice Ao119 x12_3.length co119, .agg #[.string (⟨#[]⟩ : ByteArray), .int .i64 0, .int .i64 0, .bool false, .slice none 0 0]] ?_; (refine (qA6.calls k3 ((qA3 l1 x29_1).f0) _ _ ((qA3 l1 x29_1).f1) ((qA3 l1 x29_1).f2) ((qA3 l1 x29_1).f3) ((qA3 l1 x29_1).f4) _ _ x12_3 (⟨#[]⟩ : ByteArray) 0 0 false _ _ ([] : List (S75)) t295 false _ ?side1 ?side2 ?side3 ?side4 ?side5 ?side6 A102.out).mono ?_); (case side1 => exact Kd.qAB HR268_1.out zb); (case side2 => exact HC268_1.out); (case side3 => refine (Kd.qAR (e := 3) (base := w.heap.size) (ok := fun k_ => some k_ ≠ (v265 : Value).ownBlock) (n := x12_3.length) (c := co119) ?_).2.2; exact (by (with_reducible repeat refine sR ?_); exact (zRf5 (Kd.qBW HO_12.out BK278.out (by decide))))); (case side4 => exact (Kd.qAR HO_12.out).2.1); (case side5 => exact Kd.C_nil _ _); (case side6 => exact Nat.le_refl _); rintro e w120 ⟨rfl, hb⟩; refine ⟨_, rfl, ?_⟩; replace HO_7 := zq (Kd.qBM (by (with_reducible repeat refine sR ?_); exact (zRf5 (Kd.qBW HO_7.out BK278.out (by decide)))) hb); replace HO_12 := zq (Kd.qBM (by (with_reducible repeat refine sR ?_); exact (zRf5 (Kd.qBW HO_12.out BK278.out (by decide)))) hb); replace BK269 := zq (qAM (g := gb269) (o := .cells #[.int .i64 ((qA3 l1 x29_1).f0), .slice A268_1 ((qA3 l1 x29_1).f1).length c268_1, .int .i64 ((qA3 l1 x29_1).f2), .int .i64 ((qA3 l1 x29_1).f3), .string ((qA3 l1 x29_1).f4)] 79 (0, 0)) (by refine zf5 ?_ NB269_278; (with_reducible repeat refine st ?_); exact BK269.out) hb); replace BK278 := zq (qAM (zp5 BK278) hb); replace HB := zB hb; (try clear hb hk); (try clear hb)))
   go_ret2
   exact ⟨zf, zb⟩
  subst c103
  rw [if_pos rfl] at H
  obtain ⟨-, c104b0, H⟩ := y1 H
  obtain ⟨-, c105b0, H⟩ := y1 H
  obtain ⟨y297, hy_⟩ : ∃ y_ : List Int, y_ = (x7_1.set (x29_1 : Int).toNat t295) := ⟨_, rfl⟩
  replace H : (qAC.l0 k3 l0 l1 y297 l1 (l1.length : Int) (wrap64 (x29_1 + 1))) = some (r1, r2) := zr
  have Ny297 := zq hy_
  clear hy_
  have H' := zq H
  clear H
  go_wp2_with (first | (refine boxY 15 #[.string (⟨#[]⟩ : ByteArray), .int .i64 0, .int .i64 0, .bool false, .slice none 0 0] 73 ?_; intro gb278 hg w107 BK278 hb; have GW278 := zg w gb278; have NB269_278 := zl BK269 gb278; have NB278_269 := zu BK269 gb278; replace HO_7 := zq (Kd.qBM (by (with_reducible repeat refine sR ?_); exact HO_7.out) hb); replace HO_12 := zq (Kd.qBM (by (with_reducible repeat refine sR ?_); exact HO_12.out) hb); replace BK269 := zK BK269 hb; replace HB := zB hb; clear hb hg; have hnb108 := NB278_269.out; have hnc108 := NB269_278.out; have hcz109 := bc5 BK278.out; have hcz110 := bc5 BK269.out; obtain ⟨Ao111, co111, eo111⟩ := Kd.qBX HO_12.out; subst eo111) | (refine qBY (some 103) Tryz.func72 #[.agg #[.int .i64 ((qA3 l1 x29_1).f0), .slice A268_1 ((qA3 l1 x29_1).f1).length c268_1, .int .i64 ((qA3 l1 x29_1).f2), .int .i64 ((qA3 l1 x29_1).f3), .string ((qA3 l1 x29_1).f4)], .slice Ao111 x12_3.length co111, .agg #[.string (⟨#[]⟩ : ByteArray), .int .i64 0, .int .i64 0, .bool false, .slice none 0 0]] ?_; (refine (qA6.calls k3 ((qA3 l1 x29_1).f0) _ _ ((qA3 l1 x29_1).f1) ((qA3 l1 x29_1).f2) ((qA3 l1 x29_1).f3) ((qA3 l1 x29_1).f4) _ _ x12_3 (⟨#[]⟩ : ByteArray) 0 0 false _ _ ([] : List (S75)) t295 true _ ?side1 ?side2 ?side3 ?side4 ?side5 ?side6 A102.out).mono ?_); (case side1 => exact Kd.qAB HR268_1.out zb); (case side2 => exact HC268_1.out); (case side3 => refine (Kd.qAR (e := 3) (base := w.heap.size) (ok := fun k_ => some k_ ≠ (v265 : Value).ownBlock) (n := x12_3.length) (c := co111) ?_).2.2; exact (by (with_reducible repeat refine sR ?_); exact (zRf5 (Kd.qBW HO_12.out BK278.out (by decide))))); (case side4 => exact (Kd.qAR HO_12.out).2.1); (case side5 => exact Kd.C_nil _ _); (case side6 => exact Nat.le_refl _); rintro e w112 ⟨rfl, hb⟩; refine ⟨_, rfl, ?_⟩; replace HO_7 := zq (Kd.qBM (by (with_reducible repeat refine sR ?_); exact (zRf5 (Kd.qBW HO_7.out BK278.out (by decide)))) hb); replace HO_12 := zq (Kd.qBM (by (with_reducible repeat refine sR ?_); exact (zRf5 (Kd.qBW HO_12.out BK278.out (by decide)))) hb); replace BK269 := zq (qAM (g := gb269) (o := .cells #[.int .i64 ((qA3 l1 x29_1).f0), .slice A268_1 ((qA3 l1 x29_1).f1).length c268_1, .int .i64 ((qA3 l1 x29_1).f2), .int .i64 ((qA3 l1 x29_1).f3), .string ((qA3 l1 x29_1).f4)] 79 (0, 0)) (by refine zf5 ?_ NB269_278; (with_reducible repeat refine st ?_); exact BK269.out) hb); replace BK278 := zq (qAM (zp5 BK278) hb); replace HB := zB hb; (try clear hb hk); (try clear hb); have p106 : 0 ≤ (x29_1 : Int) := zd; have q106 : (x29_1 : Int) < ((x7_1.length : Int) : Int) := zd; obtain ⟨go106, co106, eo106, gb106, gl106, cl106, HG106⟩ := Kd.R_form HO_7.out (by omega); (first | cases eo106 | (injection eo106 with ea_ en_ ec_; (first | subst ea_ | (injection ea_ with ea_; subst ea_)); subst ec_; clear en_)); have GB106 := zq gb106; have GG106 := zq HG106; clear gb106 gl106 HG106; obtain ⟨hx106_0, hf106_0⟩ := Kd.R_celln 0 HO_7.out (x29_1 : Int) p106 q106; replace p106 := eq_true p106; replace q106 := eq_true q106; obtain ⟨hy113_, hz113_⟩ := Kd.R_celln 0 HO_7.out (x29_1 : Int) (zd) (zd); have HP113 := Kd.R_putg HO_7.out (x29_1 : Int) t295) | ((with_reducible refine qC8 (t := 3) (p := 111) rfl ?_); refine qDT (t := 3) (p := 111) (v := ?vo_w114) (w1 := (w112.setCell ⟨go106, (x29_1 : Int).toNat, none⟩ (.int .i64 t295))) ?hg ?ho ?hn ?hr ?_; (case ho => rfl); (case hg => rfl); (case hn => rfl); (case hr => first | (go_simp; done) | (go_simp; rfl)); intro w114 hw; have hg : w112.grownBy w114 (some go106) := (by rw [hw]; exact HP113.2); have hp_ : Kd.R (Kd.int .i64) 3 w114 w.heap.size (fun k_ => some k_ ≠ (.slice Ao111 x12_3.length co111 : Value).ownBlock) (.slice (some ⟨go106, 0, none⟩) x7_1.length co106) y297 := (by rw [hw, Ny297.out]; exact HP113.1); clear HP113; replace HO_12 := zq (Kd.R_after (v := (.slice (some ⟨go106, 0, none⟩) x7_1.length co106)) (v1 := (.slice (some ⟨go106, 0, none⟩) x7_1.length co106)) (ok := (fun _ => True)) (by (with_reducible repeat refine sR ?_); exact Kd.qB3 HO_12.out (fun _ hk => ⟨trivial, hk⟩)) hg (.inl rfl)); replace BK269 := zq (qAF (g := gb269) (o := .cells #[.int .i64 ((qA3 l1 x29_1).f0), .slice A268_1 ((qA3 l1 x29_1).f1).length c268_1, .int .i64 ((qA3 l1 x29_1).f2), .int .i64 ((qA3 l1 x29_1).f3), .string ((qA3 l1 x29_1).f4)] 79 (0, 0)) (zk BK269) hg (Kd.R_ne HO_7.out BK269.out (by decide))); replace BK278 := zq (qAF (g := gb278) (o := .cells #[.string (⟨#[]⟩ : ByteArray), .int .i64 0, .int .i64 0, .bool false, .slice none 0 0] 73 (0, 0)) (zk BK278) hg (Kd.R_ne HO_7.out BK278.out (by decide))); replace HO_7 := zq (hp_); replace HB := zq ((by rw [hw]; exact qDW (HB.out) GB106.out : Below w.heap.size w w114)); clear hg hw hp_))
  go_roundg k3
  case measure => have := HK1.out; have := HJ12.out; have := HK3.out; omega
  case rel => exact ⟨(y297), (wrap64 (x29_1 + 1)), zs, H', ⟨by have := HK1.out; have := HJ12.out; have := HK3.out; omega⟩, ⟨by (with_reducible repeat refine sR ?_); exact Kd.qB3 HO_7.out (fun _ hk => trivial)⟩, ⟨zb⟩⟩
 replace H := zi H
 obtain ⟨t279, A430, H⟩ := H
 have A43 := zq A430
 clear A430
 replace H := zi H
 obtain ⟨⟨t282, t283, t284, t285, t286, t289⟩, A440, H⟩ := H
 dsimp only at H
 have A44 := zq A440
 clear A440
 by_cases c45 : t289 = true
 rotate_left
 ·replace c45 := Bool.eq_false_iff.mpr c45
  subst c45
  rw [zj] at H
  simp only [Option.some.injEq, Prod.mk.injEq] at H
  obtain ⟨rfl, rfl⟩ := H
  try go_wp2_with ((refine boxY 15 #[.string (⟨#[]⟩ : ByteArray), .int .i64 0, .int .i64 0, .bool false, .slice none 0 0] 73 ?_; intro gb278 hg w87 BK278 hb; have GW278 := zg w gb278; have NB269_278 := zl BK269 gb278; have NB278_269 := zu BK269 gb278; replace HO_7 := zq (Kd.qBM (by (with_reducible repeat refine sR ?_); exact HO_7.out) hb); replace HO_12 := zq (Kd.qBM (by (with_reducible repeat refine sR ?_); exact HO_12.out) hb); replace BK269 := zK BK269 hb; replace HB := zB hb; clear hb hg; have hnb88 := NB278_269.out; have hnc88 := NB269_278.out; have hcz89 := bc5 BK278.out; have hcz90 := bc5 BK269.out))
  have n0_ : qA0 (Kd.R (Kd.int .i64) 3 (((((w87.setCell ⟨gb278, 0, none⟩ (.string (⟨#[]⟩ : ByteArray))).setCell ⟨gb278, 1, none⟩ (.int .i64 0)).setCell ⟨gb278, 2, none⟩ (.int .i64 0)).setCell ⟨gb278, 3, none⟩ (.bool false)).setCell ⟨gb278, 4, none⟩ (.slice none 0 0)) w.heap.size (fun k_ => some k_ ≠ (u12 : Value).ownBlock) v265 x7_1) := ⟨by (with_reducible repeat refine sR ?_); exact Kd.qB3 (Kd.qAW (Kd.qAW (Kd.qAW (Kd.qAW (Kd.qAW (Kd.qBW HO_7.out BK278.out (by decide)) (fun _ hk => hk.2) _) (fun _ hk => hk.2) _) (fun _ hk => hk.2) _) (fun _ hk => hk.2) _) (fun _ hk => hk.2) _) (fun _ hk => hk.1)⟩
  have n1_ : qA0 (Kd.R (Kd.int .i64) 3 (((((w87.setCell ⟨gb278, 0, none⟩ (.string (⟨#[]⟩ : ByteArray))).setCell ⟨gb278, 1, none⟩ (.int .i64 0)).setCell ⟨gb278, 2, none⟩ (.int .i64 0)).setCell ⟨gb278, 3, none⟩ (.bool false)).setCell ⟨gb278, 4, none⟩ (.slice none 0 0)) w.heap.size (fun k_ => some k_ ≠ (v265 : Value).ownBlock) u12 x12_3) := ⟨by (with_reducible repeat refine sR ?_); exact Kd.qB3 (Kd.qAW (Kd.qAW (Kd.qAW (Kd.qAW (Kd.qAW (Kd.qBW HO_12.out BK278.out (by decide)) (fun _ hk => hk.2) _) (fun _ hk => hk.2) _) (fun _ hk => hk.2) _) (fun _ hk => hk.2) _) (fun _ hk => hk.2) _) (fun _ hk => hk.1)⟩
  have n2_ : qA0 ((((((w87.setCell ⟨gb278, 0, none⟩ (.string (⟨#[]⟩ : ByteArray))).setCell ⟨gb278, 1, none⟩ (.int .i64 0)).setCell ⟨gb278, 2, none⟩ (.int .i64 0)).setCell ⟨gb278, 3, none⟩ (.bool false)).setCell ⟨gb278, 4, none⟩ (.slice none 0 0)).heap[gb269]? = some (.cells #[.int .i64 ((qA3 l1 x29_1).f0), .slice A268_1 ((qA3 l1 x29_1).f1).length c268_1, .int .i64 ((qA3 l1 x29_1).f2), .int .i64 ((qA3 l1 x29_1).f3), .string ((qA3 l1 x29_1).f4)] 79 (0, 0))) := ⟨by refine zf5 ?_ NB269_278; (with_reducible repeat refine st ?_); exact BK269.out⟩
  have n3_ : qA0 ((((((w87.setCell ⟨gb278, 0, none⟩ (.string (⟨#[]⟩ : ByteArray))).setCell ⟨gb278, 1, none⟩ (.int .i64 0)).setCell ⟨gb278, 2, none⟩ (.int .i64 0)).setCell ⟨gb278, 3, none⟩ (.bool false)).setCell ⟨gb278, 4, none⟩ (.slice none 0 0)).heap[gb278]? = some (.cells #[.string (⟨#[]⟩ : ByteArray), .int .i64 0, .int .i64 0, .bool false, .slice none 0 0] 73 (0, 0))) := ⟨zp5 BK278⟩
  have n4_ : qA0 (Below w.heap.size w (((((w87.setCell ⟨gb278, 0, none⟩ (.string (⟨#[]⟩ : ByteArray))).setCell ⟨gb278, 1, none⟩ (.int .i64 0)).setCell ⟨gb278, 2, none⟩ (.int .i64 0)).setCell ⟨gb278, 3, none⟩ (.bool false)).setCell ⟨gb278, 4, none⟩ (.slice none 0 0))) := ⟨zb⟩
  (try clear HO_7)
  (try clear HO_12)
  (try clear BK269)
  (try clear BK278)
  (try clear HB)
  generalize (((((w87.setCell ⟨gb278, 0, none⟩ (.string (⟨#[]⟩ : ByteArray))).setCell ⟨gb278, 1, none⟩ (.int .i64 0)).setCell ⟨gb278, 2, none⟩ (.int .i64 0)).setCell ⟨gb278, 3, none⟩ (.bool false)).setCell ⟨gb278, 4, none⟩ (.slice none 0 0)) = w91 at n0_ n1_ n2_ n3_ n4_ ⊢
  have HO_7 := n0_
  have HO_12 := n1_
  have BK269 := n2_
  have BK278 := n3_
  have HB := n4_
  clear n0_ n1_ n2_ n3_ n4_
  replace HO_7 := zq (Kd.R_drew HO_7.out)
  replace HO_12 := zq (Kd.R_drew HO_12.out)
  replace BK269 := zq (qB7 BK269.out)
  replace BK278 := zq (qB7 BK278.out)
  replace HB := zq (qBP HB.out)
  refine qF4 (n := 10) (S := fun w' => w'.cell? ⟨gb269, 0, none⟩ = some (.int .i64 ((qA3 l1 x29_1).f0)) ∧ w'.cell? ⟨gb269, 1, none⟩ = some (.slice A268_1 ((qA3 l1 x29_1).f1).length c268_1) ∧ w'.cell? ⟨gb269, 2, none⟩ = some (.int .i64 ((qA3 l1 x29_1).f2)) ∧ w'.cell? ⟨gb269, 3, none⟩ = some (.int .i64 ((qA3 l1 x29_1).f3)) ∧ w'.cell? ⟨gb269, 4, none⟩ = some (.string ((qA3 l1 x29_1).f4))) (ds := []) (bs 10 0) (by kernel_rfl) rfl rfl ⟨(qA1 BK269.out 0).trans rfl, (qA1 BK269.out 1).trans rfl, (qA1 BK269.out 2).trans rfl, (qA1 BK269.out 3).trans rfl, (qA1 BK269.out 4).trans rfl⟩ (fun hHeld => ?_); refine qDF qAC.tab22 qAC.bits22 (fun HT_ HW_ => ?_)
  generalize w91.drew = w92 at HO_7 HO_12 BK269 BK278 HB hHeld ⊢
  refine qBK (i := 0) (N := some 80) (bs 10 1) ?_
  refine qBK (i := 2) (N := some 82) (bs 10 5) ?_
  refine qEM (i := 3) (N := some 83) (bs 10 13) ?_
  refine one_ (i := 1) (N := some 81) (bs 10 15) rfl rfl (qDU HT_.out (by kernel_rfl)) (by decide) (fun K hK => ?_)
  refine qFZ Tryz.func70 (by kernel_rfl) rfl #[.slice A0 l0.length c0] (by rfl) rfl rfl (by (try simp only [List.map_toArray, List.map_cons, List.map_nil]); first | done | rfl | (simp only [List.length_drop, List.length_take]; rfl)) ?_
  with_reducible refine (qAG.calls k3 _ _ l0 t279 _ ?side1 ?side2 A43.out).mono ?_
  (case side1 => repeat (first | exact (Kd.qAB HR0.out HB.out) | refine sC ?_))
  (case side2 => exact HC0.out)
  rintro e w93 ⟨v280, rfl, ho0, hb⟩
  refine ⟨_, rfl, ?_⟩
  have HO281 := zq (Kd.qFN (Kd.S_newB ho0 (g := gb278) (o := .cells #[.string (⟨#[]⟩ : ByteArray), .int .i64 0, .int .i64 0, .bool false, .slice none 0 0] 73 (0, 0)) (zk BK278)) (qAH zb))
  replace HO_7 := zq (Kd.qBM (by (with_reducible repeat refine sR ?_); exact HO_7.out) hb)
  replace HO_12 := zq (Kd.qBM (by (with_reducible repeat refine sR ?_); exact HO_12.out) hb)
  replace BK269 := zK BK269 hb
  replace BK278 := zK BK278 hb
  replace HB := zB hb
  (try clear hb)
  (try clear hb2)
  (try clear hk)
  (try clear hi)
  (try clear ho0)
  obtain ⟨Ao94, co94, eo94⟩ := Kd.qFM HO281.out
  (first | subst eo94 | (injection eo94 with f1_ f2_ f3_; have f4_ := f1_.symm; have f5_ := f3_.symm; clear f1_ f2_ f3_; subst f4_; subst f5_))
  refine hK.out _ _ ⟨(qA1 BK269.out 0).trans rfl, (qA1 BK269.out 1).trans rfl, (qA1 BK269.out 2).trans rfl, (qA1 BK269.out 3).trans rfl, (qA1 BK269.out 4).trans rfl⟩ (fun hHeld => ?_)
  clear hK K
  refine qFQ ?_
  refine one_ (i := 4) (N := some 84) (bs 10 31) rfl rfl (qDU HT_.out (by kernel_rfl)) (by decide) (fun K hK => ?_)
  refine qFZ Tryz.func69 (by kernel_rfl) rfl #[.slice Ao94 t279.length co94, .string ((qA3 l1 x29_1).f4)] (by rfl) rfl rfl (by (try simp only [List.map_toArray, List.map_cons, List.map_nil]); first | done | rfl | (simp only [List.length_drop, List.length_take]; rfl)) ?_
  with_reducible refine (qBD.calls k3 (fun k_ => ((((True ∧ k_ ≠ gb278) ∧ some k_ ≠ (v265 : Value).ownBlock) ∧ some k_ ≠ (u12 : Value).ownBlock) ∧ k_ ≠ gb269)) _ _ t279 ((qA3 l1 x29_1).f4) t282 t283 t284 t285 t286 false _ ?side1 A44.out).mono ?_
  (case side1 => exact Kd.S_V (Kd.qEO (Kd.S_apart' (Kd.S_apart' (HO281.out) (Kd.R_typed HO_7.out) (by decide)) (Kd.R_typed HO_12.out) (by decide)) BK269.out (by decide)))
  rintro e w95 ⟨v287, rfl, ho0, hb⟩
  refine ⟨_, rfl, ?_⟩
  have HO288 := zq (Kd.V_lower (Kd.qFU (ok' := fun k_ => some k_ ≠ (v265 : Value).ownBlock ∧ some k_ ≠ (u12 : Value).ownBlock ∧ k_ ≠ gb269 ∧ k_ ≠ gb278) ho0 (fun k_ hk_ => ⟨Or.elim hk_ (fun hs_ => hs_.1.1.2) (fun hn_ => (Kd.fresh' (Kd.R_lt (by (with_reducible repeat refine sR ?_); exact HO_7.out)) k_ hn_)), Or.elim hk_ (fun hs_ => hs_.1.2) (fun hn_ => (Kd.fresh' (Kd.R_lt (by (with_reducible repeat refine sR ?_); exact HO_12.out)) k_ hn_)), Or.elim hk_ (fun hs_ => hs_.2) (fun hn_ => (Kd.freshB (g := gb269) (o := .cells #[.int .i64 ((qA3 l1 x29_1).f0), .slice A268_1 ((qA3 l1 x29_1).f1).length c268_1, .int .i64 ((qA3 l1 x29_1).f2), .int .i64 ((qA3 l1 x29_1).f3), .string ((qA3 l1 x29_1).f4)] 79 (0, 0)) (zk BK269) k_ hn_)), Or.elim hk_ (fun hs_ => hs_.1.1.1.2) (fun hn_ => (Kd.freshB (g := gb278) (o := .cells #[.string (⟨#[]⟩ : ByteArray), .int .i64 0, .int .i64 0, .bool false, .slice none 0 0] 73 (0, 0)) (zk BK278) k_ hn_))⟩)) (qAH zb))
  replace HO_7 := zq (Kd.qBM (by (with_reducible repeat refine sR ?_); exact HO_7.out) hb)
  replace HO_12 := zq (Kd.qBM (by (with_reducible repeat refine sR ?_); exact HO_12.out) hb)
  replace HO281 := zq (Kd.qDY (by (with_reducible repeat refine sS ?_); exact HO281.out) hb)
  replace BK269 := zK BK269 hb
  replace BK278 := zK BK278 hb
  replace HB := zB hb
  (try clear hb)
  (try clear hb2)
  (try clear hk)
  (try clear hi)
  (try clear ho0)
  obtain ⟨Ao100, co100, eo100⟩ := Kd.V_slice HO288.out
  (first | subst eo100 | (injection eo100 with f1_ f2_ f3_; have f4_ := f1_.symm; have f5_ := f3_.symm; clear f1_ f2_ f3_; subst f4_; subst f5_))
  refine hK.out _ _ ⟨(qA1 BK269.out 0).trans rfl, (qA1 BK269.out 1).trans rfl, (qA1 BK269.out 2).trans rfl, (qA1 BK269.out 3).trans rfl, (qA1 BK269.out 4).trans rfl⟩ (fun hHeld => ?_)
  clear hK K
  refine qFQ ?_
  refine qBK (i := 5) (N := some 79) (bs 10 63) ?_
  refine qBK (i := 6) (N := some 85) (bs 10 127) ?_
  refine qBK (i := 7) (N := some 86) (bs 10 255) ?_
  refine one_ (i := 8) (N := none) (bs 10 511) rfl rfl (qDU HT_.out (by kernel_rfl)) (by decide) (fun K hK => ?_)
  have hs96 : w95.cell? ⟨gb278, 0, none⟩ = some (.string (⟨#[]⟩ : ByteArray)) := (qA1 BK278.out 0).trans rfl
  have hfs96 := qAZ BK278.out 0
  have hns96_0 := NB269_278.out
  have hms96_0 := NB278_269.out
  have hs97 : w95.cell? ⟨gb278, 1, none⟩ = some (.int .i64 0) := (qA1 BK278.out 1).trans rfl
  have hfs97 := qAZ BK278.out 1
  have hns97_0 := NB269_278.out
  have hms97_0 := NB278_269.out
  have hs98 : w95.cell? ⟨gb278, 2, none⟩ = some (.int .i64 0) := (qA1 BK278.out 2).trans rfl
  have hfs98 := qAZ BK278.out 2
  have hns98_0 := NB269_278.out
  have hms98_0 := NB278_269.out
  have hs99 : w95.cell? ⟨gb278, 3, none⟩ = some (.bool false) := (qA1 BK278.out 3).trans rfl
  have hfs99 := qAZ BK278.out 3
  have hns99_0 := NB269_278.out
  have hms99_0 := NB278_269.out
  have hs101 : w95.cell? ⟨gb278, 4, none⟩ = some (.slice none 0 0) := (qA1 BK278.out 4).trans rfl
  have hfs101 := qAZ BK278.out 4
  have hns101_0 := NB269_278.out
  have hms101_0 := NB278_269.out
  refine skip_ (w1 := ?_) (by rfl) rfl ?_ ?_
  rotate_left
  ·go_simp
   rfl
  refine hK.out _ _ ⟨((cell_far (p := ⟨gb278, _, none⟩) NB269_278.out _).trans (((cell_far (p := ⟨gb278, _, none⟩) NB269_278.out _).trans (((cell_far (p := ⟨gb278, _, none⟩) NB269_278.out _).trans (((cell_far (p := ⟨gb278, _, none⟩) NB269_278.out _).trans (((cell_far (p := ⟨gb278, _, none⟩) NB269_278.out _).trans (hHeld.1)))))))))), ((cell_far (p := ⟨gb278, _, none⟩) NB269_278.out _).trans (((cell_far (p := ⟨gb278, _, none⟩) NB269_278.out _).trans (((cell_far (p := ⟨gb278, _, none⟩) NB269_278.out _).trans (((cell_far (p := ⟨gb278, _, none⟩) NB269_278.out _).trans (((cell_far (p := ⟨gb278, _, none⟩) NB269_278.out _).trans (hHeld.2.1)))))))))), ((cell_far (p := ⟨gb278, _, none⟩) NB269_278.out _).trans (((cell_far (p := ⟨gb278, _, none⟩) NB269_278.out _).trans (((cell_far (p := ⟨gb278, _, none⟩) NB269_278.out _).trans (((cell_far (p := ⟨gb278, _, none⟩) NB269_278.out _).trans (((cell_far (p := ⟨gb278, _, none⟩) NB269_278.out _).trans (hHeld.2.2.1)))))))))), ((cell_far (p := ⟨gb278, _, none⟩) NB269_278.out _).trans (((cell_far (p := ⟨gb278, _, none⟩) NB269_278.out _).trans (((cell_far (p := ⟨gb278, _, none⟩) NB269_278.out _).trans (((cell_far (p := ⟨gb278, _, none⟩) NB269_278.out _).trans (((cell_far (p := ⟨gb278, _, none⟩) NB269_278.out _).trans (hHeld.2.2.2.1)))))))))), ((cell_far (p := ⟨gb278, _, none⟩) NB269_278.out _).trans (((cell_far (p := ⟨gb278, _, none⟩) NB269_278.out _).trans (((cell_far (p := ⟨gb278, _, none⟩) NB269_278.out _).trans (((cell_far (p := ⟨gb278, _, none⟩) NB269_278.out _).trans (((cell_far (p := ⟨gb278, _, none⟩) NB269_278.out _).trans (hHeld.2.2.2.2))))))))))⟩ (fun hHeld => ?_)
  clear hK K
  refine qBK (i := 9) (N := some 16) (bs 10 1023) ?_
  refine done_ (qCQ HT_.out (by kernel_rfl)) ?_
  try go_wp2
  go_ret2
  exact ⟨zf, zb⟩
 subst c45
 rw [if_pos rfl] at H
 have HC46 := zq H
 clear H
 try go_wp2_with ((refine boxY 15 #[.string (⟨#[]⟩ : ByteArray), .int .i64 0, .int .i64 0, .bool false, .slice none 0 0] 73 ?_; intro gb278 hg w47 BK278 hb; have GW278 := zg w gb278; have NB269_278 := zl BK269 gb278; have NB278_269 := zu BK269 gb278; replace HO_7 := zq (Kd.qBM (by (with_reducible repeat refine sR ?_); exact HO_7.out) hb); replace HO_12 := zq (Kd.qBM (by (with_reducible repeat refine sR ?_); exact HO_12.out) hb); replace BK269 := zK BK269 hb; replace HB := zB hb; clear hb hg; have hnb48 := NB278_269.out; have hnc48 := NB269_278.out; have hcz49 := bc5 BK278.out; have hcz50 := bc5 BK269.out))
 have n0_ : qA0 (Kd.R (Kd.int .i64) 3 (((((w47.setCell ⟨gb278, 0, none⟩ (.string (⟨#[]⟩ : ByteArray))).setCell ⟨gb278, 1, none⟩ (.int .i64 0)).setCell ⟨gb278, 2, none⟩ (.int .i64 0)).setCell ⟨gb278, 3, none⟩ (.bool false)).setCell ⟨gb278, 4, none⟩ (.slice none 0 0)) w.heap.size (fun k_ => some k_ ≠ (u12 : Value).ownBlock) v265 x7_1) := ⟨by (with_reducible repeat refine sR ?_); exact Kd.qB3 (Kd.qAW (Kd.qAW (Kd.qAW (Kd.qAW (Kd.qAW (Kd.qBW HO_7.out BK278.out (by decide)) (fun _ hk => hk.2) _) (fun _ hk => hk.2) _) (fun _ hk => hk.2) _) (fun _ hk => hk.2) _) (fun _ hk => hk.2) _) (fun _ hk => hk.1)⟩
 have n1_ : qA0 (Kd.R (Kd.int .i64) 3 (((((w47.setCell ⟨gb278, 0, none⟩ (.string (⟨#[]⟩ : ByteArray))).setCell ⟨gb278, 1, none⟩ (.int .i64 0)).setCell ⟨gb278, 2, none⟩ (.int .i64 0)).setCell ⟨gb278, 3, none⟩ (.bool false)).setCell ⟨gb278, 4, none⟩ (.slice none 0 0)) w.heap.size (fun k_ => some k_ ≠ (v265 : Value).ownBlock) u12 x12_3) := ⟨by (with_reducible repeat refine sR ?_); exact Kd.qB3 (Kd.qAW (Kd.qAW (Kd.qAW (Kd.qAW (Kd.qAW (Kd.qBW HO_12.out BK278.out (by decide)) (fun _ hk => hk.2) _) (fun _ hk => hk.2) _) (fun _ hk => hk.2) _) (fun _ hk => hk.2) _) (fun _ hk => hk.2) _) (fun _ hk => hk.1)⟩
 have n2_ : qA0 ((((((w47.setCell ⟨gb278, 0, none⟩ (.string (⟨#[]⟩ : ByteArray))).setCell ⟨gb278, 1, none⟩ (.int .i64 0)).setCell ⟨gb278, 2, none⟩ (.int .i64 0)).setCell ⟨gb278, 3, none⟩ (.bool false)).setCell ⟨gb278, 4, none⟩ (.slice none 0 0)).heap[gb269]? = some (.cells #[.int .i64 ((qA3 l1 x29_1).f0), .slice A268_1 ((qA3 l1 x29_1).f1).length c268_1, .int .i64 ((qA3 l1 x29_1).f2), .int .i64 ((qA3 l1 x29_1).f3), .string ((qA3 l1 x29_1).f4)] 79 (0, 0))) := ⟨by refine zf5 ?_ NB269_278; (with_reducible repeat refine st ?_); exact BK269.out⟩
 have n3_ : qA0 ((((((w47.setCell ⟨gb278, 0, none⟩ (.string (⟨#[]⟩ : ByteArray))).setCell ⟨gb278, 1, none⟩ (.int .i64 0)).setCell ⟨gb278, 2, none⟩ (.int .i64 0)).setCell ⟨gb278, 3, none⟩ (.bool false)).setCell ⟨gb278, 4, none⟩ (.slice none 0 0)).heap[gb278]? = some (.cells #[.string (⟨#[]⟩ : ByteArray), .int .i64 0, .int .i64 0, .bool false, .slice none 0 0] 73 (0, 0))) := ⟨zp5 BK278⟩
 have n4_ : qA0 (Below w.heap.size w (((((w47.setCell ⟨gb278, 0, none⟩ (.string (⟨#[]⟩ : ByteArray))).setCell ⟨gb278, 1, none⟩ (.int .i64 0)).setCell ⟨gb278, 2, none⟩ (.int .i64 0)).setCell ⟨gb278, 3, none⟩ (.bool false)).setCell ⟨gb278, 4, none⟩ (.slice none 0 0))) := ⟨zb⟩
 (try clear HO_7)
 (try clear HO_12)
 (try clear BK269)
 (try clear BK278)
 (try clear HB)
 generalize (((((w47.setCell ⟨gb278, 0, none⟩ (.string (⟨#[]⟩ : ByteArray))).setCell ⟨gb278, 1, none⟩ (.int .i64 0)).setCell ⟨gb278, 2, none⟩ (.int .i64 0)).setCell ⟨gb278, 3, none⟩ (.bool false)).setCell ⟨gb278, 4, none⟩ (.slice none 0 0)) = w51 at n0_ n1_ n2_ n3_ n4_ ⊢
 have HO_7 := n0_
 have HO_12 := n1_
 have BK269 := n2_
 have BK278 := n3_
 have HB := n4_
 clear n0_ n1_ n2_ n3_ n4_
 replace HO_7 := zq (Kd.R_drew HO_7.out)
 replace HO_12 := zq (Kd.R_drew HO_12.out)
 replace BK269 := zq (qB7 BK269.out)
 replace BK278 := zq (qB7 BK278.out)
 replace HB := zq (qBP HB.out)
 refine qF4 (n := 10) (S := fun w' => w'.cell? ⟨gb269, 0, none⟩ = some (.int .i64 ((qA3 l1 x29_1).f0)) ∧ w'.cell? ⟨gb269, 1, none⟩ = some (.slice A268_1 ((qA3 l1 x29_1).f1).length c268_1) ∧ w'.cell? ⟨gb269, 2, none⟩ = some (.int .i64 ((qA3 l1 x29_1).f2)) ∧ w'.cell? ⟨gb269, 3, none⟩ = some (.int .i64 ((qA3 l1 x29_1).f3)) ∧ w'.cell? ⟨gb269, 4, none⟩ = some (.string ((qA3 l1 x29_1).f4))) (ds := []) (bs 10 0) (by kernel_rfl) rfl rfl ⟨(qA1 BK269.out 0).trans rfl, (qA1 BK269.out 1).trans rfl, (qA1 BK269.out 2).trans rfl, (qA1 BK269.out 3).trans rfl, (qA1 BK269.out 4).trans rfl⟩ (fun hHeld => ?_); refine qDF qAC.tab22 qAC.bits22 (fun HT_ HW_ => ?_)
 generalize w51.drew = w52 at HO_7 HO_12 BK269 BK278 HB hHeld ⊢
 refine qBK (i := 0) (N := some 80) (bs 10 1) ?_
 refine qBK (i := 2) (N := some 82) (bs 10 5) ?_
 refine qEM (i := 3) (N := some 83) (bs 10 13) ?_
 refine one_ (i := 1) (N := some 81) (bs 10 15) rfl rfl (qDU HT_.out (by kernel_rfl)) (by decide) (fun K hK => ?_)
 refine qFZ Tryz.func70 (by kernel_rfl) rfl #[.slice A0 l0.length c0] (by rfl) rfl rfl (by (try simp only [List.map_toArray, List.map_cons, List.map_nil]); first | done | rfl | (simp only [List.length_drop, List.length_take]; rfl)) ?_
 with_reducible refine (qAG.calls k3 _ _ l0 t279 _ ?side1 ?side2 A43.out).mono ?_
 (case side1 => repeat (first | exact (Kd.qAB HR0.out HB.out) | refine sC ?_))
 (case side2 => exact HC0.out)
 rintro e w53 ⟨v280, rfl, ho0, hb⟩
 refine ⟨_, rfl, ?_⟩
 have HO281 := zq (Kd.qFN (Kd.S_newB ho0 (g := gb278) (o := .cells #[.string (⟨#[]⟩ : ByteArray), .int .i64 0, .int .i64 0, .bool false, .slice none 0 0] 73 (0, 0)) (zk BK278)) (qAH zb))
 replace HO_7 := zq (Kd.qBM (by (with_reducible repeat refine sR ?_); exact HO_7.out) hb)
 replace HO_12 := zq (Kd.qBM (by (with_reducible repeat refine sR ?_); exact HO_12.out) hb)
 replace BK269 := zK BK269 hb
 replace BK278 := zK BK278 hb
 replace HB := zB hb
 (try clear hb)
 (try clear hb2)
 (try clear hk)
 (try clear hi)
 (try clear ho0)
 obtain ⟨Ao54, co54, eo54⟩ := Kd.qFM HO281.out
 (first | subst eo54 | (injection eo54 with f1_ f2_ f3_; have f4_ := f1_.symm; have f5_ := f3_.symm; clear f1_ f2_ f3_; subst f4_; subst f5_))
 refine hK.out _ _ ⟨(qA1 BK269.out 0).trans rfl, (qA1 BK269.out 1).trans rfl, (qA1 BK269.out 2).trans rfl, (qA1 BK269.out 3).trans rfl, (qA1 BK269.out 4).trans rfl⟩ (fun hHeld => ?_)
 clear hK K
 refine qFQ ?_
 refine one_ (i := 4) (N := some 84) (bs 10 31) rfl rfl (qDU HT_.out (by kernel_rfl)) (by decide) (fun K hK => ?_)
 refine qFZ Tryz.func69 (by kernel_rfl) rfl #[.slice Ao54 t279.length co54, .string ((qA3 l1 x29_1).f4)] (by rfl) rfl rfl (by (try simp only [List.map_toArray, List.map_cons, List.map_nil]); first | done | rfl | (simp only [List.length_drop, List.length_take]; rfl)) ?_
 with_reducible refine (qBD.calls k3 (fun k_ => ((((True ∧ k_ ≠ gb278) ∧ some k_ ≠ (v265 : Value).ownBlock) ∧ some k_ ≠ (u12 : Value).ownBlock) ∧ k_ ≠ gb269)) _ _ t279 ((qA3 l1 x29_1).f4) t282 t283 t284 t285 t286 true _ ?side1 A44.out).mono ?_
 (case side1 => exact Kd.S_V (Kd.qEO (Kd.S_apart' (Kd.S_apart' (HO281.out) (Kd.R_typed HO_7.out) (by decide)) (Kd.R_typed HO_12.out) (by decide)) BK269.out (by decide)))
 rintro e w55 ⟨v287, rfl, ho0, hb⟩
 refine ⟨_, rfl, ?_⟩
 have HO288 := zq (Kd.V_lower (Kd.qFU (ok' := fun k_ => some k_ ≠ (v265 : Value).ownBlock ∧ some k_ ≠ (u12 : Value).ownBlock ∧ k_ ≠ gb269 ∧ k_ ≠ gb278) ho0 (fun k_ hk_ => ⟨Or.elim hk_ (fun hs_ => hs_.1.1.2) (fun hn_ => (Kd.fresh' (Kd.R_lt (by (with_reducible repeat refine sR ?_); exact HO_7.out)) k_ hn_)), Or.elim hk_ (fun hs_ => hs_.1.2) (fun hn_ => (Kd.fresh' (Kd.R_lt (by (with_reducible repeat refine sR ?_); exact HO_12.out)) k_ hn_)), Or.elim hk_ (fun hs_ => hs_.2) (fun hn_ => (Kd.freshB (g := gb269) (o := .cells #[.int .i64 ((qA3 l1 x29_1).f0), .slice A268_1 ((qA3 l1 x29_1).f1).length c268_1, .int .i64 ((qA3 l1 x29_1).f2), .int .i64 ((qA3 l1 x29_1).f3), .string ((qA3 l1 x29_1).f4)] 79 (0, 0)) (zk BK269) k_ hn_)), Or.elim hk_ (fun hs_ => hs_.1.1.1.2) (fun hn_ => (Kd.freshB (g := gb278) (o := .cells #[.string (⟨#[]⟩ : ByteArray), .int .i64 0, .int .i64 0, .bool false, .slice none 0 0] 73 (0, 0)) (zk BK278) k_ hn_))⟩)) (qAH zb))
 replace HO_7 := zq (Kd.qBM (by (with_reducible repeat refine sR ?_); exact HO_7.out) hb)
 replace HO_12 := zq (Kd.qBM (by (with_reducible repeat refine sR ?_); exact HO_12.out) hb)
 replace HO281 := zq (Kd.qDY (by (with_reducible repeat refine sS ?_); exact HO281.out) hb)
 replace BK269 := zK BK269 hb
 replace BK278 := zK BK278 hb
 replace HB := zB hb
 (try clear hb)
 (try clear hb2)
 (try clear hk)
 (try clear hi)
 (try clear ho0)
 obtain ⟨Ao60, co60, eo60⟩ := Kd.V_slice HO288.out
 (first | subst eo60 | (injection eo60 with f1_ f2_ f3_; have f4_ := f1_.symm; have f5_ := f3_.symm; clear f1_ f2_ f3_; subst f4_; subst f5_))
 refine hK.out _ _ ⟨(qA1 BK269.out 0).trans rfl, (qA1 BK269.out 1).trans rfl, (qA1 BK269.out 2).trans rfl, (qA1 BK269.out 3).trans rfl, (qA1 BK269.out 4).trans rfl⟩ (fun hHeld => ?_)
 clear hK K
 refine qFQ ?_
 refine qBK (i := 5) (N := some 79) (bs 10 63) ?_
 refine qBK (i := 6) (N := some 85) (bs 10 127) ?_
 refine qBK (i := 7) (N := some 86) (bs 10 255) ?_
 refine one_ (i := 8) (N := none) (bs 10 511) rfl rfl (qDU HT_.out (by kernel_rfl)) (by decide) (fun K hK => ?_)
 have hs56 : w55.cell? ⟨gb278, 0, none⟩ = some (.string (⟨#[]⟩ : ByteArray)) := (qA1 BK278.out 0).trans rfl
 have hfs56 := qAZ BK278.out 0
 have hns56_0 := NB269_278.out
 have hms56_0 := NB278_269.out
 have hs57 : w55.cell? ⟨gb278, 1, none⟩ = some (.int .i64 0) := (qA1 BK278.out 1).trans rfl
 have hfs57 := qAZ BK278.out 1
 have hns57_0 := NB269_278.out
 have hms57_0 := NB278_269.out
 have hs58 : w55.cell? ⟨gb278, 2, none⟩ = some (.int .i64 0) := (qA1 BK278.out 2).trans rfl
 have hfs58 := qAZ BK278.out 2
 have hns58_0 := NB269_278.out
 have hms58_0 := NB278_269.out
 have hs59 : w55.cell? ⟨gb278, 3, none⟩ = some (.bool false) := (qA1 BK278.out 3).trans rfl
 have hfs59 := qAZ BK278.out 3
 have hns59_0 := NB269_278.out
 have hms59_0 := NB278_269.out
 have hs61 : w55.cell? ⟨gb278, 4, none⟩ = some (.slice none 0 0) := (qA1 BK278.out 4).trans rfl
 have hfs61 := qAZ BK278.out 4
 have hns61_0 := NB269_278.out
 have hms61_0 := NB278_269.out
 refine skip_ (w1 := ?_) (by rfl) rfl ?_ ?_
 rotate_left
 ·go_simp
  rfl
 refine hK.out _ _ ⟨((cell_far (p := ⟨gb278, _, none⟩) NB269_278.out _).trans (((cell_far (p := ⟨gb278, _, none⟩) NB269_278.out _).trans (((cell_far (p := ⟨gb278, _, none⟩) NB269_278.out _).trans (((cell_far (p := ⟨gb278, _, none⟩) NB269_278.out _).trans (((cell_far (p := ⟨gb278, _, none⟩) NB269_278.out _).trans (hHeld.1)))))))))), ((cell_far (p := ⟨gb278, _, none⟩) NB269_278.out _).trans (((cell_far (p := ⟨gb278, _, none⟩) NB269_278.out _).trans (((cell_far (p := ⟨gb278, _, none⟩) NB269_278.out _).trans (((cell_far (p := ⟨gb278, _, none⟩) NB269_278.out _).trans (((cell_far (p := ⟨gb278, _, none⟩) NB269_278.out _).trans (hHeld.2.1)))))))))), ((cell_far (p := ⟨gb278, _, none⟩) NB269_278.out _).trans (((cell_far (p := ⟨gb278, _, none⟩) NB269_278.out _).trans (((cell_far (p := ⟨gb278, _, none⟩) NB269_278.out _).trans (((cell_far (p := ⟨gb278, _, none⟩) NB269_278.out _).trans (((cell_far (p := ⟨gb278, _, none⟩) NB269_278.out _).trans (hHeld.2.2.1)))))))))), ((cell_far (p := ⟨gb278, _, none⟩) NB269_278.out _).trans (((cell_far (p := ⟨gb278, _, none⟩) NB269_278.out _).trans (((cell_far (p := ⟨gb278, _, none⟩) NB269_278.out _).trans (((cell_far (p := ⟨gb278, _, none⟩) NB269_278.out _).trans (((cell_far (p := ⟨gb278, _, none⟩) NB269_278.out _).trans (hHeld.2.2.2.1)))))))))), ((cell_far (p := ⟨gb278, _, none⟩) NB269_278.out _).trans (((cell_far (p := ⟨gb278, _, none⟩) NB269_278.out _).trans (((cell_far (p := ⟨gb278, _, none⟩) NB269_278.out _).trans (((cell_far (p := ⟨gb278, _, none⟩) NB269_278.out _).trans (((cell_far (p := ⟨gb278, _, none⟩) NB269_278.out _).trans (hHeld.2.2.2.2))))))))))⟩ (fun hHeld => ?_)
 clear hK K
 refine qBK (i := 9) (N := some 16) (bs 10 1023) ?_
 refine done_ (qCQ HT_.out (by kernel_rfl)) ?_
 go_upto_region 25 with (fail)
 go_cut [98] (fun v98 wc => ∃ (kq : Nat) (x98_45 : Bool), v98 = .bool x98_45 ∧ qA0 (qAC.j3 kq l0 l1 x7_1 x29_1 x12_3 l1 (l1.length : Int) x29_1 x98_45 ((qA3 l1 x29_1).f0) ((qA3 l1 x29_1).f1) ((qA3 l1 x29_1).f2) ((qA3 l1 x29_1).f3) ((qA3 l1 x29_1).f4) t282 t283 t284 t285 t286 = some (r1, r2)) ∧ qA0 (kq ≤ k3) ∧ qA0 (Kd.R (Kd.int .i64) 3 wc w.heap.size (fun k_ => some k_ ≠ (u12 : Value).ownBlock) v265 x7_1) ∧ qA0 (Kd.R (Kd.int .i64) 3 wc w.heap.size (fun k_ => some k_ ≠ (v265 : Value).ownBlock) u12 x12_3) ∧ qA0 (Kd.V k75 75 wc w.heap.size (fun k_ => some k_ ≠ (v265 : Value).ownBlock ∧ some k_ ≠ (u12 : Value).ownBlock ∧ k_ ≠ gb269 ∧ k_ ≠ gb278) (.slice Ao60 t286.length co60) t286) ∧ qA0 (wc.heap[gb269]? = some (.cells #[.int .i64 ((qA3 l1 x29_1).f0), (.slice A268_1 ((qA3 l1 x29_1).f1).length c268_1), .int .i64 ((qA3 l1 x29_1).f2), .int .i64 ((qA3 l1 x29_1).f3), .string ((qA3 l1 x29_1).f4)] 79 (0, 0))) ∧ qA0 (wc.heap[gb278]? = some (.cells #[.string t282, .int .i64 t283, .int .i64 t284, .bool t285, (.slice Ao60 t286.length co60)] 73 (0, 0))) ∧ qA0 (Below w.heap.size w wc))
 case first =>
  have H := HC46.out
  clear HC46
  replace H := zi H
  obtain ⟨t290, A620, H⟩ := H
  have A62 := zq A620
  clear A620
  by_cases c63 : t290 = true
  rotate_left
  ·replace c63 := Bool.eq_false_iff.mpr c63
   subst c63
   rw [zj] at H
   have H' := zq H
   clear H
   have hnb67 := NB278_269.out
   have hnc67 := NB269_278.out
   have hcz68 := bc5 BK278.out
   go_wp2_with ((refine qBY (some 91) Tryz.func71 #[.int .i64 t283] ?_; (with_reducible refine (qC7.calls t283 false _ A62.out).mono ?_); rintro e w' ⟨rfl, ⟨nd, rfl⟩⟩; refine ⟨_, rfl, ?_⟩))
   go_meet
   case rel => exact ⟨_, (true), zs, H', ⟨by have := HK1.out; have := HJ12.out; have := HK3.out; first | omega | exact Nat.le_refl _⟩, ⟨by (with_reducible repeat refine sR ?_); exact Kd.qB3 (Kd.qAW (Kd.qAW (Kd.qAW (Kd.qAW (Kd.qAW (Kd.qBW HO_7.out BK278.out (by decide)) (fun _ hk => hk.2) _) (fun _ hk => hk.2) _) (fun _ hk => hk.2) _) (fun _ hk => hk.2) _) (fun _ hk => hk.2) _) (fun _ hk => hk.1)⟩, ⟨by (with_reducible repeat refine sR ?_); exact Kd.qB3 (Kd.qAW (Kd.qAW (Kd.qAW (Kd.qAW (Kd.qAW (Kd.qBW HO_12.out BK278.out (by decide)) (fun _ hk => hk.2) _) (fun _ hk => hk.2) _) (fun _ hk => hk.2) _) (fun _ hk => hk.2) _) (fun _ hk => hk.2) _) (fun _ hk => hk.1)⟩, ⟨by (with_reducible repeat (first | apply Kd.V_alloc | apply Kd.qEN | apply Kd.V_drew)); exact Kd.qFU (Kd.qEX (Kd.qEX (Kd.qEX (Kd.qEX (Kd.qEX (Kd.qFU HO288.out (fun k_ hk => (⟨hk, hk.2.2.2⟩ : _ ∧ k_ ≠ gb278))) (fun _ hk => hk.2) _) (fun _ hk => hk.2) _) (fun _ hk => hk.2) _) (fun _ hk => hk.2) _) (fun _ hk => hk.2) _) (fun _ hk => ⟨hk.1.1, ⟨hk.1.2.1, ⟨hk.1.2.2.1, hk.1.2.2.2⟩⟩⟩)⟩, ⟨by refine zf5 ?_ NB269_278; (with_reducible repeat refine st ?_); exact BK269.out⟩, ⟨zp5 BK278⟩, ⟨zb⟩⟩
  subst c63
  rw [if_pos rfl] at H
  replace H := zi H
  obtain ⟨t291, A640, H⟩ := H
  have A64 := zq A640
  clear A640
  have H' := zq H
  clear H
  have hnb65 := NB278_269.out
  have hnc65 := NB269_278.out
  have hcz66 := bc5 BK278.out
  go_wp2_with (first | (refine qBY (some 91) Tryz.func71 #[.int .i64 t283] ?_; (with_reducible refine (qC7.calls t283 true _ A62.out).mono ?_); rintro e w' ⟨rfl, ⟨nd, rfl⟩⟩; refine ⟨_, rfl, ?_⟩) | (go_at_call 71; (with_reducible refine (qC7.calls t284 t291 _ A64.out).mono ?_); rintro e w' ⟨rfl, ⟨nd, rfl⟩⟩))
  go_meet
  case rel => exact ⟨_, (!t291), zs, H', ⟨by have := HK1.out; have := HJ12.out; have := HK3.out; first | omega | exact Nat.le_refl _⟩, ⟨by (with_reducible repeat refine sR ?_); exact Kd.qB3 (Kd.qAW (Kd.qAW (Kd.qAW (Kd.qAW (Kd.qAW (Kd.qBW HO_7.out BK278.out (by decide)) (fun _ hk => hk.2) _) (fun _ hk => hk.2) _) (fun _ hk => hk.2) _) (fun _ hk => hk.2) _) (fun _ hk => hk.2) _) (fun _ hk => hk.1)⟩, ⟨by (with_reducible repeat refine sR ?_); exact Kd.qB3 (Kd.qAW (Kd.qAW (Kd.qAW (Kd.qAW (Kd.qAW (Kd.qBW HO_12.out BK278.out (by decide)) (fun _ hk => hk.2) _) (fun _ hk => hk.2) _) (fun _ hk => hk.2) _) (fun _ hk => hk.2) _) (fun _ hk => hk.2) _) (fun _ hk => hk.1)⟩, ⟨by (with_reducible repeat (first | apply Kd.V_alloc | apply Kd.qEN | apply Kd.V_drew)); exact Kd.qFU (Kd.qEX (Kd.qEX (Kd.qEX (Kd.qEX (Kd.qEX (Kd.qFU HO288.out (fun k_ hk => (⟨hk, hk.2.2.2⟩ : _ ∧ k_ ≠ gb278))) (fun _ hk => hk.2) _) (fun _ hk => hk.2) _) (fun _ hk => hk.2) _) (fun _ hk => hk.2) _) (fun _ hk => hk.2) _) (fun _ hk => ⟨hk.1.1, ⟨hk.1.2.1, ⟨hk.1.2.2.1, hk.1.2.2.2⟩⟩⟩)⟩, ⟨by refine zf5 ?_ NB269_278; (with_reducible repeat refine st ?_); exact BK269.out⟩, ⟨zp5 BK278⟩, ⟨zb⟩⟩
 clear HC46 c34b0 c42b0 c42b1 hcz49 hcz50
 obtain ⟨kq, x98_45, rfl, HA, HJ45, HO_7, HO_12, HO_279004, BK269, BK278, HB⟩ := hcut
 obtain _ | kj45 := kq
 ·exact absurd HA.out (by simp [qAC.j3])
 have H := HA.out
 clear HA
 simp only [qAC.j3] at H
 by_cases c69 : x98_45 = true
 ·subst c69
  rw [if_pos rfl] at H
  simp only [Option.some.injEq, Prod.mk.injEq] at H
  obtain ⟨rfl, rfl⟩ := H
  go_wp2
  go_ret2
  exact ⟨zf, zb⟩
 replace c69 := Bool.eq_false_iff.mpr c69
 subst c69
 rw [zj] at H
 replace H := zi H
 obtain ⟨⟨t292, t293⟩, A700, H⟩ := H
 dsimp only at H
 have A70 := zq A700
 clear A700
 by_cases c71 : t293 = true
 rotate_left
 ·replace c71 := Bool.eq_false_iff.mpr c71
  subst c71
  rw [zj] at H
  simp only [Option.some.injEq, Prod.mk.injEq] at H
  obtain ⟨rfl, rfl⟩ := H
  have hnb82 := NB269_278.out
  have hnc82 := NB278_269.out
  have hcz83 := bc5 BK269.out
  have hcz84 := bc5 BK278.out
  obtain ⟨Ao85, co85, eo85⟩ := Kd.qBX HO_12.out
  subst eo85
  go_wp2_with ((refine qBY (some 103) Tryz.func72 #[.agg #[.int .i64 ((qA3 l1 x29_1).f0), .slice A268_1 ((qA3 l1 x29_1).f1).length c268_1, .int .i64 ((qA3 l1 x29_1).f2), .int .i64 ((qA3 l1 x29_1).f3), .string ((qA3 l1 x29_1).f4)], .slice Ao85 x12_3.length co85, .agg #[.string t282, .int .i64 t283, .int .i64 t284, .bool t285, .slice Ao60 t286.length co60]] ?_; (with_reducible refine (qA6.calls kj45 ((qA3 l1 x29_1).f0) _ _ ((qA3 l1 x29_1).f1) ((qA3 l1 x29_1).f2) ((qA3 l1 x29_1).f3) ((qA3 l1 x29_1).f4) _ _ x12_3 t282 t283 t284 t285 _ _ t286 t292 false _ ?side1 ?side2 ?side3 ?side4 ?side5 ?side6 A70.out).mono ?_); (case side1 => repeat (first | exact (Kd.qAB HR268_1.out HB.out) | refine sC ?_)); (case side2 => exact HC268_1.out); (case side3 => repeat (first | exact (Kd.qAR HO_12.out).2.2 | refine sC ?_)); (case side4 => exact (Kd.qAR HO_12.out).2.1); (case side5 => repeat (first | exact (Kd.qFG HO_279004.out).2.2 | refine sC ?_)); (case side6 => exact (Kd.qFG HO_279004.out).2.1); rintro e w86 ⟨rfl, hb⟩; refine ⟨_, rfl, ?_⟩; replace HO_7 := zq (Kd.qBM (by (with_reducible repeat refine sR ?_); exact HO_7.out) hb); replace HO_12 := zq (Kd.qBM (by (with_reducible repeat refine sR ?_); exact HO_12.out) hb); replace HO_279004 := zq (Kd.V_below (by (with_reducible repeat (first | apply Kd.V_alloc | apply Kd.qEN | apply Kd.V_drew)); exact HO_279004.out) hb); replace BK269 := zK BK269 hb; replace BK278 := zK BK278 hb; replace HB := zB hb; (try clear hb hk); (try clear hb)))
  go_ret2
  exact ⟨zf, zb⟩
 subst c71
 rw [if_pos rfl] at H
 obtain ⟨-, c72b0, H⟩ := y1 H
 obtain ⟨-, c73b0, H⟩ := y1 H
 obtain ⟨y294, hy_⟩ : ∃ y_ : List Int, y_ = (x7_1.set (x29_1 : Int).toNat t292) := ⟨_, rfl⟩
 replace H : (qAC.l0 kj45 l0 l1 y294 l1 (l1.length : Int) (wrap64 (x29_1 + 1))) = some (r1, r2) := zr
 have Ny294 := zq hy_
 clear hy_
 have H' := zq H
 clear H
 have hnb75 := NB269_278.out
 have hnc75 := NB278_269.out
 have hcz76 := bc5 BK269.out
 have hcz77 := bc5 BK278.out
 obtain ⟨Ao78, co78, eo78⟩ := Kd.qBX HO_12.out
 subst eo78
 go_wp2_with (first | (refine qBY (some 103) Tryz.func72 #[.agg #[.int .i64 ((qA3 l1 x29_1).f0), .slice A268_1 ((qA3 l1 x29_1).f1).length c268_1, .int .i64 ((qA3 l1 x29_1).f2), .int .i64 ((qA3 l1 x29_1).f3), .string ((qA3 l1 x29_1).f4)], .slice Ao78 x12_3.length co78, .agg #[.string t282, .int .i64 t283, .int .i64 t284, .bool t285, .slice Ao60 t286.length co60]] ?_; (with_reducible refine (qA6.calls kj45 ((qA3 l1 x29_1).f0) _ _ ((qA3 l1 x29_1).f1) ((qA3 l1 x29_1).f2) ((qA3 l1 x29_1).f3) ((qA3 l1 x29_1).f4) _ _ x12_3 t282 t283 t284 t285 _ _ t286 t292 true _ ?side1 ?side2 ?side3 ?side4 ?side5 ?side6 A70.out).mono ?_); (case side1 => repeat (first | exact (Kd.qAB HR268_1.out HB.out) | refine sC ?_)); (case side2 => exact HC268_1.out); (case side3 => repeat (first | exact (Kd.qAR HO_12.out).2.2 | refine sC ?_)); (case side4 => exact (Kd.qAR HO_12.out).2.1); (case side5 => repeat (first | exact (Kd.qFG HO_279004.out).2.2 | refine sC ?_)); (case side6 => exact (Kd.qFG HO_279004.out).2.1); rintro e w79 ⟨rfl, hb⟩; refine ⟨_, rfl, ?_⟩; replace HO_7 := zq (Kd.qBM (by (with_reducible repeat refine sR ?_); exact HO_7.out) hb); replace HO_12 := zq (Kd.qBM (by (with_reducible repeat refine sR ?_); exact HO_12.out) hb); replace HO_279004 := zq (Kd.V_below (by (with_reducible repeat (first | apply Kd.V_alloc | apply Kd.qEN | apply Kd.V_drew)); exact HO_279004.out) hb); replace BK269 := zK BK269 hb; replace BK278 := zK BK278 hb; replace HB := zB hb; (try clear hb hk); (try clear hb); have p74 : 0 ≤ (x29_1 : Int) := zd; have q74 : (x29_1 : Int) < ((x7_1.length : Int) : Int) := zd; obtain ⟨go74, co74, eo74, gb74, gl74, cl74, HG74⟩ := Kd.R_form HO_7.out (by omega); (first | cases eo74 | (injection eo74 with ea_ en_ ec_; (first | subst ea_ | (injection ea_ with ea_; subst ea_)); subst ec_; clear en_)); have GB74 := zq gb74; have GG74 := zq HG74; clear gb74 gl74 HG74; obtain ⟨hx74_0, hf74_0⟩ := Kd.R_celln 0 HO_7.out (x29_1 : Int) p74 q74; replace p74 := eq_true p74; replace q74 := eq_true q74; obtain ⟨hy80_, hz80_⟩ := Kd.R_celln 0 HO_7.out (x29_1 : Int) (zd) (zd); have HP80 := Kd.R_putg HO_7.out (x29_1 : Int) t292) | ((with_reducible refine qC8 (t := 3) (p := 111) rfl ?_); refine qDT (t := 3) (p := 111) (v := ?vo_w81) (w1 := (w79.setCell ⟨go74, (x29_1 : Int).toNat, none⟩ (.int .i64 t292))) ?hg ?ho ?hn ?hr ?_; (case ho => rfl); (case hg => rfl); (case hn => rfl); (case hr => first | (go_simp; done) | (go_simp; rfl)); intro w81 hw; have hg : w79.grownBy w81 (some go74) := (by rw [hw]; exact HP80.2); have hp_ : Kd.R (Kd.int .i64) 3 w81 w.heap.size (fun k_ => some k_ ≠ (.slice Ao78 x12_3.length co78 : Value).ownBlock) (.slice (some ⟨go74, 0, none⟩) x7_1.length co74) y294 := (by rw [hw, Ny294.out]; exact HP80.1); clear HP80; replace HO_12 := zq (Kd.R_after (v := (.slice (some ⟨go74, 0, none⟩) x7_1.length co74)) (v1 := (.slice (some ⟨go74, 0, none⟩) x7_1.length co74)) (ok := (fun _ => True)) (by (with_reducible repeat refine sR ?_); exact Kd.qB3 HO_12.out (fun _ hk => ⟨trivial, hk⟩)) hg (.inl rfl)); replace HO_279004 := zq (Kd.V_afterv (v := (.slice (some ⟨go74, 0, none⟩) x7_1.length co74)) (v1 := (.slice (some ⟨go74, 0, none⟩) x7_1.length co74)) (ok := (fun k_ => some k_ ≠ (.slice Ao78 x12_3.length co78 : Value).ownBlock ∧ k_ ≠ gb269 ∧ k_ ≠ gb278)) (by (with_reducible repeat (first | apply Kd.V_alloc | apply Kd.qEN | apply Kd.V_drew)); exact Kd.qFU HO_279004.out (fun _ hk => ⟨⟨hk.2.1, ⟨hk.2.2.1, hk.2.2.2⟩⟩, hk.1⟩)) hg (.inl rfl)); replace BK269 := zq (qAF (g := gb269) (o := .cells #[.int .i64 ((qA3 l1 x29_1).f0), .slice A268_1 ((qA3 l1 x29_1).f1).length c268_1, .int .i64 ((qA3 l1 x29_1).f2), .int .i64 ((qA3 l1 x29_1).f3), .string ((qA3 l1 x29_1).f4)] 79 (0, 0)) (zk BK269) hg (Kd.R_ne HO_7.out BK269.out (by decide))); replace BK278 := zq (qAF (g := gb278) (o := .cells #[.string t282, .int .i64 t283, .int .i64 t284, .bool t285, .slice Ao60 t286.length co60] 73 (0, 0)) (zk BK278) hg (Kd.R_ne HO_7.out BK278.out (by decide))); replace HO_7 := zq (hp_); replace HB := zq ((by rw [hw]; exact qDW (HB.out) GB74.out : Below w.heap.size w w81)); clear hg hw hp_))
 go_roundg kj45
 case measure => have := HK1.out; have := HJ12.out; have := HK3.out; have := HJ45.out; omega
 case rel => exact ⟨(y294), (wrap64 (x29_1 + 1)), zs, H', ⟨by have := HK1.out; have := HJ12.out; have := HK3.out; have := HJ45.out; omega⟩, ⟨by (with_reducible repeat refine sR ?_); exact Kd.qB3 HO_7.out (fun _ hk => trivial)⟩, ⟨zb⟩⟩
end
end Go.Proofs.YtfnejdbjekkadaaGreat.PRatePuts
end
