/- A part of the proof of RatePuts: texts that were printed, words, walks. No condition. -/
import Derived.Test.YtfnejdbjekkadaaGreatC1
import Derived.Test.YtfnejdbjekkadaaGreatC2
import Derived.Test.YtfnejdbjekkadaaGreatC4
import Derived.Lib.SliceRun
set_option linter.unusedVariables false
set_option linter.unusedSimpArgs false
section
namespace Go.Proofs.YtfnejdbjekkadaaGreat.PRatePuts
noncomputable section
open Go.RowKit Go.Proofs.YtfnejdbjekkadaaGreatW.PrintWords Go.Proofs.YtfnejdbjekkadaaGreatW.PrintLast Go.Proofs.YtfnejdbjekkadaaGreatW.PrintMore
set_option maxHeartbeats 8000000
set_option maxRecDepth 100000
def qB5.j0 : Nat → List (S49) → Bool → ByteArray → ByteArray → List (S79) → List (S79) → List (S59) → Int → Option (Int)
 | 0, _, _, _, _, _, _, _, _ => none
 | k + 1, x0, x18, x299000, x299001, x299002, x299003, x299004, x299005 => if x18 = true then (some 1) else (if (x299004.length : Int) > 8 then (some 2) else ((qAU.f k x0 x299001).bind fun bt299 => (if bt299.2.2.2.2.2.2.2 = true then (if bt299.2.2.1 = true then (some 19) else (if (x299002.length : Int) > 0 then ((qAC.f k x0 x299002).bind fun bt308 => (if bt308.2 = 0 then (if bt308.1 = 1 then ((qAC.f k x0 x299003).bind fun bt310 => (if bt310.2 = 0 then (if bt310.1 = bt299.2.1 then (some bt310.2) else (some 8)) else (some bt310.2))) else (some 8)) else (some bt308.2))) else ((qAC.f k x0 x299003).bind fun bt312 => (if bt312.2 = 0 then (if bt312.1 = bt299.2.1 then (some bt312.2) else (some 8)) else (some bt312.2))))) else (some 4))))
def qB5.f (k : Nat) (l0 : List (S49)) (a1_0 : ByteArray) (a1_1 : ByteArray) (l1_2 : List (S79)) (l1_3 : List (S79)) (l1_4 : List (S59)) (a1_5 : Int) : Option (Int) := if a1_5 < 0 then (qB5.j0 k l0 true a1_0 a1_1 l1_2 l1_3 l1_4 a1_5) else (qB5.j0 k l0 (decide (a1_5 > 9)) a1_0 a1_1 l1_2 l1_3 l1_4 a1_5)
theorem qB5.qBT : ∀ k, (∀ y0 y1 y2 y3 y4 y5 y6 y7, LeO (qB5.j0 k y0 y1 y2 y3 y4 y5 y6 y7) (qB5.j0 (k + 1) y0 y1 y2 y3 y4 y5 y6 y7))
 | 0 => fun _ _ _ _ _ _ _ _ r h => by simp [qB5.j0] at h
 | k + 1 => by
  have ih0 := qB5.qBT k
  ·intro y0 y1 y2 y3 y4 y5 y6 y7
   unfold qB5.j0
   have im0 := @qAU.mono
   have im1 := @qAC.mono
   exact zm
theorem qB5.mono : ∀ a0 a1 a2 a3 a4 a5 a6 k, LeO (qB5.f k a0 a1 a2 a3 a4 a5 a6) (qB5.f (k + 1) a0 a1 a2 a3 a4 a5 a6) := by
 intro a0 a1 a2 a3 a4 a5 a6 k
 have ih0 := qB5.qBT k
 unfold qB5.f
 have im0 := @qAU.mono
 have im1 := @qAC.mono
 exact zm
theorem qB5.calls (k : Nat) (A0 : Option Addr) (c0 : Nat) (l0 : List (S49)) (a1_0 : ByteArray) (a1_1 : ByteArray) (A1_2 : Option Addr) (c1_2 : Nat) (l1_2 : List (S79)) (A1_3 : Option Addr) (c1_3 : Nat) (l1_3 : List (S79)) (A1_4 : Option Addr) (c1_4 : Nat) (l1_4 : List (S59)) (a1_5 : Int) (r : Int) (w : World) (hr0 : Kd.C k49 w A0 l0.length l0) (hc0 : l0.length ≤ c0) (hr1_2 : Kd.C k79 w A1_2 l1_2.length l1_2) (hc1_2 : l1_2.length ≤ c1_2) (hr1_3 : Kd.C k79 w A1_3 l1_3.length l1_3) (hc1_3 : l1_3.length ≤ c1_3) (hr1_4 : Kd.C k59 w A1_4 l1_4.length l1_4) (hc1_4 : l1_4.length ≤ c1_4) (h : qB5.f k l0 a1_0 a1_1 l1_2 l1_3 l1_4 a1_5 = some r) :
  Calls Tryz.prog 16 #[.slice A0 l0.length c0, .agg #[.string a1_0, .string a1_1, .slice A1_2 l1_2.length c1_2, .slice A1_3 l1_3.length c1_3, .slice A1_4 l1_4.length c1_4, .int .i64 a1_5]] w fun e w' => e = .returned (.int .i64 r) ∧ Below w.heap.size w w' := by
 have hu55 := Tryz.underlying55
 have hu98 := Tryz.underlying98
 have HR0 := zq hr0
 have HC0 := zq hc0
 clear hr0 hc0
 have HR1_2 := zq hr1_2
 have HC1_2 := zq hc1_2
 clear hr1_2 hc1_2
 have HR1_3 := zq hr1_3
 have HC1_3 := zq hc1_3
 clear hr1_3 hc1_3
 have HR1_4 := zq hr1_4
 have HC1_4 := zq hc1_4
 clear hr1_4 hc1_4
 have HB := zq (Below.refl w.heap.size w)
 have H := h
 unfold qB5.f at H
 clear h
 have HC3 := zq H
 clear H
 go_enter Tryz.func16, Tryz.ntmps16
 go_upto_region 1 with ((refine boxY 3 #[.string a1_0, .string a1_1, .slice A1_2 l1_2.length c1_2, .slice A1_3 l1_3.length c1_3, .slice A1_4 l1_4.length c1_4, .int .i64 a1_5] 55 ?_; intro gb298 hg w4 BK298 hb; have GW298 := zg w gb298; replace HB := zB hb; clear hb hg))
 go_cut [18] (fun v18 wc => ∃ (kq : Nat) (x18_2 : Bool), v18 = .bool x18_2 ∧ qA0 (qB5.j0 kq l0 x18_2 a1_0 a1_1 l1_2 l1_3 l1_4 a1_5 = some r) ∧ qA0 (kq ≤ k) ∧ qA0 (wc.heap[gb298]? = some (.cells #[.string a1_0, .string a1_1, (.slice A1_2 l1_2.length c1_2), (.slice A1_3 l1_3.length c1_3), (.slice A1_4 l1_4.length c1_4), .int .i64 a1_5] 55 (0, 0))) ∧ qA0 (Below w.heap.size w wc))
 case first =>
  have H := HC3.out
  clear HC3
  obtain ⟨-, c5b0, H⟩ | ⟨-, c5b0, H⟩ := y3 H
  rotate_left
  ·(first | rw [c5b0] | (simp only [qCI, qCO]; rw [c5b0]) | skip)
   have H' := zq H
   clear H
   have hcz7 := bc6 BK298.out
   go_wp2
   go_meet
   case rel => exact ⟨_, (decide (a1_5 > 9)), zs, H', ⟨by first | omega | exact Nat.le_refl _⟩, ⟨zk BK298⟩, ⟨zb⟩⟩
  (first | rw [c5b0] | (simp only [qCI, qCO]; rw [c5b0]) | skip)
  have H' := zq H
  clear H
  have hcz6 := bc6 BK298.out
  go_wp2
  go_meet
  case rel => exact ⟨_, (true), zs, H', ⟨by first | omega | exact Nat.le_refl _⟩, ⟨zk BK298⟩, ⟨zb⟩⟩
 clear HC3
 obtain ⟨kq, x18_2, rfl, HA, HJ2, BK298, HB⟩ := hcut
 obtain _ | kj2 := kq
 ·exact absurd HA.out (by simp [qB5.j0])
 have H := HA.out
 clear HA
 simp only [qB5.j0] at H
 by_cases c8 : x18_2 = true
 ·subst c8
  rw [if_pos rfl] at H
  obtain rfl := zy H
  go_wp2
  go_ret
  exact ⟨zf, zb⟩
 replace c8 := Bool.eq_false_iff.mpr c8
 subst c8
 rw [zj] at H
 obtain ⟨c9, c9b0, H⟩ | ⟨c9, c9b0, H⟩ := y3 H
 ·have c9b1 : decide (8 < l1_4.length) = true := decide_eq_true (by omega)
  clear c9
  obtain rfl := zy H
  have hcz10 := bc6 BK298.out
  go_wp2
  go_ret
  exact ⟨zf, zb⟩
 have c9b1 : decide (8 < l1_4.length) = false := decide_eq_false (by omega)
 clear c9
 replace H := zi H
 obtain ⟨⟨t299, t300, t301, t302, t303, t304, t305, t306⟩, A110, H⟩ := H
 dsimp only at H
 have A11 := zq A110
 clear A110
 by_cases c12 : t306 = true
 rotate_left
 ·replace c12 := Bool.eq_false_iff.mpr c12
  subst c12
  rw [zj] at H
  obtain rfl := zy H
  have hcz95 := bc6 BK298.out
  go_wp2_with (first | (refine qBY (some 27) Tryz.func46 #[.slice A0 l0.length c0, .string a1_1] ?_; (with_reducible refine (qAU.calls kj2 _ _ l0 a1_1 t299 t300 t301 t302 t303 t304 t305 false _ ?side1 ?side2 A11.out).mono ?_); (case side1 => repeat (first | exact (Kd.qAB HR0.out HB.out) | refine sC ?_)); (case side2 => exact HC0.out); rintro e w96 ⟨rfl, hb⟩; refine ⟨_, rfl, ?_⟩; replace BK298 := zK BK298 hb; replace HB := zB hb; (try clear hb hk); (try clear hb)) | (refine boxY 5 #[.string (⟨#[]⟩ : ByteArray), .int .i64 0, .bool false, .int .i64 0, .int .i64 0, .int .i64 0, .int .i64 0] 98 ?_; intro gb307 hg w97 BK307 hb; have GW307 := zg w gb307; have NB298_307 := zl BK298 gb307; have NB307_298 := zu BK298 gb307; replace BK298 := zK BK298 hb; replace HB := zB hb; clear hb hg; have hnb98 := NB307_298.out; have hnc98 := NB298_307.out; have hcz99 := bc7 BK307.out))
  go_ret
  exact ⟨zf, zb⟩
 subst c12
 rw [if_pos rfl] at H
 by_cases c13 : t301 = true
 ·subst c13
  rw [if_pos rfl] at H
  obtain rfl := zy H
  have hcz14 := bc6 BK298.out
  go_wp2_with (first | (refine qBY (some 27) Tryz.func46 #[.slice A0 l0.length c0, .string a1_1] ?_; (with_reducible refine (qAU.calls kj2 _ _ l0 a1_1 t299 t300 true t302 t303 t304 t305 true _ ?side1 ?side2 A11.out).mono ?_); (case side1 => repeat (first | exact (Kd.qAB HR0.out HB.out) | refine sC ?_)); (case side2 => exact HC0.out); rintro e w15 ⟨rfl, hb⟩; refine ⟨_, rfl, ?_⟩; replace BK298 := zK BK298 hb; replace HB := zB hb; (try clear hb hk); (try clear hb)) | (refine boxY 5 #[.string (⟨#[]⟩ : ByteArray), .int .i64 0, .bool false, .int .i64 0, .int .i64 0, .int .i64 0, .int .i64 0] 98 ?_; intro gb307 hg w16 BK307 hb; have GW307 := zg w gb307; have NB298_307 := zl BK298 gb307; have NB307_298 := zu BK298 gb307; replace BK298 := zK BK298 hb; replace HB := zB hb; clear hb hg; have hnb17 := NB307_298.out; have hnc17 := NB298_307.out; have hcz18 := bc7 BK307.out))
  go_ret
  exact ⟨zf, zb⟩
 replace c13 := Bool.eq_false_iff.mpr c13
 subst c13
 rw [zj] at H
 obtain ⟨c19, c19b0, H⟩ | ⟨c19, c19b0, H⟩ := y3 H
 rotate_left
 ·have c19b1 : decide (0 < l1_2.length) = false := decide_eq_false (by omega)
  clear c19
  replace H := zi H
  obtain ⟨⟨t312, t313⟩, A690, H⟩ := H
  dsimp only at H
  have A69 := zq A690
  clear A690
  obtain ⟨-, c70b0, c70b1, H⟩ | ⟨c70, c70b0, c70b1, H⟩ := y4 H
  rotate_left
  ·obtain rfl := zy H
   have hcz88 := bc6 BK298.out
   go_wp2_with (first | (refine qBY (some 27) Tryz.func46 #[.slice A0 l0.length c0, .string a1_1] ?_; (with_reducible refine (qAU.calls kj2 _ _ l0 a1_1 t299 t300 false t302 t303 t304 t305 true _ ?side1 ?side2 A11.out).mono ?_); (case side1 => repeat (first | exact (Kd.qAB HR0.out HB.out) | refine sC ?_)); (case side2 => exact HC0.out); rintro e w89 ⟨rfl, hb⟩; refine ⟨_, rfl, ?_⟩; replace BK298 := zK BK298 hb; replace HB := zB hb; (try clear hb hk); (try clear hb)) | (refine boxY 5 #[.string (⟨#[]⟩ : ByteArray), .int .i64 0, .bool false, .int .i64 0, .int .i64 0, .int .i64 0, .int .i64 0] 98 ?_; intro gb307 hg w90 BK307 hb; have GW307 := zg w gb307; have NB298_307 := zl BK298 gb307; have NB307_298 := zu BK298 gb307; replace BK298 := zK BK298 hb; replace HB := zB hb; clear hb hg; have hnb91 := NB307_298.out; have hnc91 := NB298_307.out; have hcz92 := bc7 BK307.out; have hcz93 := bc6 BK298.out) | (refine qBY (some 54) Tryz.func47 #[.slice A0 l0.length c0, .slice A1_3 l1_3.length c1_3] ?_; (with_reducible refine (qAC.calls kj2 _ _ l0 _ _ l1_3 t312 t313 _ ?side1 ?side2 ?side3 ?side4 A69.out).mono ?_); (case side1 => exact Kd.qAB HR0.out zb); (case side2 => exact HC0.out); (case side3 => exact Kd.qAB HR1_3.out zb); (case side4 => exact HC1_3.out); rintro e w94 ⟨rfl, hb⟩; refine ⟨_, rfl, ?_⟩; replace BK298 := zq (qAM (g := gb298) (o := .cells #[.string a1_0, .string a1_1, .slice A1_2 l1_2.length c1_2, .slice A1_3 l1_3.length c1_3, .slice A1_4 l1_4.length c1_4, .int .i64 a1_5] 55 (0, 0)) (by refine zf7 ?_ NB298_307; (with_reducible repeat refine st ?_); exact BK298.out) hb); replace BK307 := zq (qAM (zp7 BK307) hb); replace HB := zB hb; (try clear hb hk); (try clear hb)))
   go_ret
   exact ⟨zf, zb⟩
  obtain ⟨-, c71b0, c71b1, H⟩ | ⟨c71, c71b0, c71b1, H⟩ := y4 H
  rotate_left
  ·obtain rfl := zy H
   have hcz80 := bc6 BK298.out
   go_wp2_with (first | (refine qBY (some 27) Tryz.func46 #[.slice A0 l0.length c0, .string a1_1] ?_; (with_reducible refine (qAU.calls kj2 _ _ l0 a1_1 t299 t300 false t302 t303 t304 t305 true _ ?side1 ?side2 A11.out).mono ?_); (case side1 => repeat (first | exact (Kd.qAB HR0.out HB.out) | refine sC ?_)); (case side2 => exact HC0.out); rintro e w81 ⟨rfl, hb⟩; refine ⟨_, rfl, ?_⟩; replace BK298 := zK BK298 hb; replace HB := zB hb; (try clear hb hk); (try clear hb)) | (refine boxY 5 #[.string (⟨#[]⟩ : ByteArray), .int .i64 0, .bool false, .int .i64 0, .int .i64 0, .int .i64 0, .int .i64 0] 98 ?_; intro gb307 hg w82 BK307 hb; have GW307 := zg w gb307; have NB298_307 := zl BK298 gb307; have NB307_298 := zu BK298 gb307; replace BK298 := zK BK298 hb; replace HB := zB hb; clear hb hg; have hnb83 := NB307_298.out; have hnc83 := NB298_307.out; have hcz84 := bc7 BK307.out; have hcz85 := bc6 BK298.out) | (refine qBY (some 54) Tryz.func47 #[.slice A0 l0.length c0, .slice A1_3 l1_3.length c1_3] ?_; (with_reducible refine (qAC.calls kj2 _ _ l0 _ _ l1_3 t312 t313 _ ?side1 ?side2 ?side3 ?side4 A69.out).mono ?_); (case side1 => exact Kd.qAB HR0.out zb); (case side2 => exact HC0.out); (case side3 => exact Kd.qAB HR1_3.out zb); (case side4 => exact HC1_3.out); rintro e w86 ⟨rfl, hb⟩; refine ⟨_, rfl, ?_⟩; replace BK298 := zq (qAM (g := gb298) (o := .cells #[.string a1_0, .string a1_1, .slice A1_2 l1_2.length c1_2, .slice A1_3 l1_3.length c1_3, .slice A1_4 l1_4.length c1_4, .int .i64 a1_5] 55 (0, 0)) (by refine zf7 ?_ NB298_307; (with_reducible repeat refine st ?_); exact BK298.out) hb); replace BK307 := zq (qAM (zp7 BK307) hb); replace HB := zB hb; (try clear hb hk); (try clear hb); have hcz87 := bc7 BK307.out))
   go_ret
   exact ⟨zf, zb⟩
  obtain rfl := zy H
  have hcz72 := bc6 BK298.out
  go_wp2_with (first | (refine qBY (some 27) Tryz.func46 #[.slice A0 l0.length c0, .string a1_1] ?_; (with_reducible refine (qAU.calls kj2 _ _ l0 a1_1 t299 t300 false t302 t303 t304 t305 true _ ?side1 ?side2 A11.out).mono ?_); (case side1 => repeat (first | exact (Kd.qAB HR0.out HB.out) | refine sC ?_)); (case side2 => exact HC0.out); rintro e w73 ⟨rfl, hb⟩; refine ⟨_, rfl, ?_⟩; replace BK298 := zK BK298 hb; replace HB := zB hb; (try clear hb hk); (try clear hb)) | (refine boxY 5 #[.string (⟨#[]⟩ : ByteArray), .int .i64 0, .bool false, .int .i64 0, .int .i64 0, .int .i64 0, .int .i64 0] 98 ?_; intro gb307 hg w74 BK307 hb; have GW307 := zg w gb307; have NB298_307 := zl BK298 gb307; have NB307_298 := zu BK298 gb307; replace BK298 := zK BK298 hb; replace HB := zB hb; clear hb hg; have hnb75 := NB307_298.out; have hnc75 := NB298_307.out; have hcz76 := bc7 BK307.out; have hcz77 := bc6 BK298.out) | (refine qBY (some 54) Tryz.func47 #[.slice A0 l0.length c0, .slice A1_3 l1_3.length c1_3] ?_; (with_reducible refine (qAC.calls kj2 _ _ l0 _ _ l1_3 t312 t313 _ ?side1 ?side2 ?side3 ?side4 A69.out).mono ?_); (case side1 => exact Kd.qAB HR0.out zb); (case side2 => exact HC0.out); (case side3 => exact Kd.qAB HR1_3.out zb); (case side4 => exact HC1_3.out); rintro e w78 ⟨rfl, hb⟩; refine ⟨_, rfl, ?_⟩; replace BK298 := zq (qAM (g := gb298) (o := .cells #[.string a1_0, .string a1_1, .slice A1_2 l1_2.length c1_2, .slice A1_3 l1_3.length c1_3, .slice A1_4 l1_4.length c1_4, .int .i64 a1_5] 55 (0, 0)) (by refine zf7 ?_ NB298_307; (with_reducible repeat refine st ?_); exact BK298.out) hb); replace BK307 := zq (qAM (zp7 BK307) hb); replace HB := zB hb; (try clear hb hk); (try clear hb); have hcz79 := bc7 BK307.out))
  go_ret
  exact ⟨zf, zb⟩
 have c19b1 : decide (0 < l1_2.length) = true := decide_eq_true (by omega)
 clear c19
 replace H := zi H
 obtain ⟨⟨t308, t309⟩, A200, H⟩ := H
 dsimp only at H
 have A20 := zq A200
 clear A200
 obtain ⟨-, c21b0, c21b1, H⟩ | ⟨c21, c21b0, c21b1, H⟩ := y4 H
 rotate_left
 ·obtain rfl := zy H
  have hcz62 := bc6 BK298.out
  go_wp2_with (first | (refine qBY (some 27) Tryz.func46 #[.slice A0 l0.length c0, .string a1_1] ?_; (with_reducible refine (qAU.calls kj2 _ _ l0 a1_1 t299 t300 false t302 t303 t304 t305 true _ ?side1 ?side2 A11.out).mono ?_); (case side1 => repeat (first | exact (Kd.qAB HR0.out HB.out) | refine sC ?_)); (case side2 => exact HC0.out); rintro e w63 ⟨rfl, hb⟩; refine ⟨_, rfl, ?_⟩; replace BK298 := zK BK298 hb; replace HB := zB hb; (try clear hb hk); (try clear hb)) | (refine boxY 5 #[.string (⟨#[]⟩ : ByteArray), .int .i64 0, .bool false, .int .i64 0, .int .i64 0, .int .i64 0, .int .i64 0] 98 ?_; intro gb307 hg w64 BK307 hb; have GW307 := zg w gb307; have NB298_307 := zl BK298 gb307; have NB307_298 := zu BK298 gb307; replace BK298 := zK BK298 hb; replace HB := zB hb; clear hb hg; have hnb65 := NB307_298.out; have hnc65 := NB298_307.out; have hcz66 := bc7 BK307.out; have hcz67 := bc6 BK298.out) | (refine qBY (some 42) Tryz.func47 #[.slice A0 l0.length c0, .slice A1_2 l1_2.length c1_2] ?_; (with_reducible refine (qAC.calls kj2 _ _ l0 _ _ l1_2 t308 t309 _ ?side1 ?side2 ?side3 ?side4 A20.out).mono ?_); (case side1 => exact Kd.qAB HR0.out zb); (case side2 => exact HC0.out); (case side3 => exact Kd.qAB HR1_2.out zb); (case side4 => exact HC1_2.out); rintro e w68 ⟨rfl, hb⟩; refine ⟨_, rfl, ?_⟩; replace BK298 := zq (qAM (g := gb298) (o := .cells #[.string a1_0, .string a1_1, .slice A1_2 l1_2.length c1_2, .slice A1_3 l1_3.length c1_3, .slice A1_4 l1_4.length c1_4, .int .i64 a1_5] 55 (0, 0)) (by refine zf7 ?_ NB298_307; (with_reducible repeat refine st ?_); exact BK298.out) hb); replace BK307 := zq (qAM (zp7 BK307) hb); replace HB := zB hb; (try clear hb hk); (try clear hb)))
  go_ret
  exact ⟨zf, zb⟩
 obtain ⟨-, c22b0, c22b1, H⟩ | ⟨c22, c22b0, c22b1, H⟩ := y4 H
 rotate_left
 ·obtain rfl := zy H
  have hcz55 := bc6 BK298.out
  go_wp2_with (first | (refine qBY (some 27) Tryz.func46 #[.slice A0 l0.length c0, .string a1_1] ?_; (with_reducible refine (qAU.calls kj2 _ _ l0 a1_1 t299 t300 false t302 t303 t304 t305 true _ ?side1 ?side2 A11.out).mono ?_); (case side1 => repeat (first | exact (Kd.qAB HR0.out HB.out) | refine sC ?_)); (case side2 => exact HC0.out); rintro e w56 ⟨rfl, hb⟩; refine ⟨_, rfl, ?_⟩; replace BK298 := zK BK298 hb; replace HB := zB hb; (try clear hb hk); (try clear hb)) | (refine boxY 5 #[.string (⟨#[]⟩ : ByteArray), .int .i64 0, .bool false, .int .i64 0, .int .i64 0, .int .i64 0, .int .i64 0] 98 ?_; intro gb307 hg w57 BK307 hb; have GW307 := zg w gb307; have NB298_307 := zl BK298 gb307; have NB307_298 := zu BK298 gb307; replace BK298 := zK BK298 hb; replace HB := zB hb; clear hb hg; have hnb58 := NB307_298.out; have hnc58 := NB298_307.out; have hcz59 := bc7 BK307.out; have hcz60 := bc6 BK298.out) | (refine qBY (some 42) Tryz.func47 #[.slice A0 l0.length c0, .slice A1_2 l1_2.length c1_2] ?_; (with_reducible refine (qAC.calls kj2 _ _ l0 _ _ l1_2 t308 t309 _ ?side1 ?side2 ?side3 ?side4 A20.out).mono ?_); (case side1 => exact Kd.qAB HR0.out zb); (case side2 => exact HC0.out); (case side3 => exact Kd.qAB HR1_2.out zb); (case side4 => exact HC1_2.out); rintro e w61 ⟨rfl, hb⟩; refine ⟨_, rfl, ?_⟩; replace BK298 := zq (qAM (g := gb298) (o := .cells #[.string a1_0, .string a1_1, .slice A1_2 l1_2.length c1_2, .slice A1_3 l1_3.length c1_3, .slice A1_4 l1_4.length c1_4, .int .i64 a1_5] 55 (0, 0)) (by refine zf7 ?_ NB298_307; (with_reducible repeat refine st ?_); exact BK298.out) hb); replace BK307 := zq (qAM (zp7 BK307) hb); replace HB := zB hb; (try clear hb hk); (try clear hb)))
  go_ret
  exact ⟨zf, zb⟩
 replace H := zi H
 obtain ⟨⟨t310, t311⟩, A230, H⟩ := H
 dsimp only at H
 have A23 := zq A230
 clear A230
 obtain ⟨-, c24b0, c24b1, H⟩ | ⟨c24, c24b0, c24b1, H⟩ := y4 H
 rotate_left
 ·obtain rfl := zy H
  have hcz46 := bc6 BK298.out
  go_wp2_with (first | (refine qBY (some 27) Tryz.func46 #[.slice A0 l0.length c0, .string a1_1] ?_; (with_reducible refine (qAU.calls kj2 _ _ l0 a1_1 t299 t300 false t302 t303 t304 t305 true _ ?side1 ?side2 A11.out).mono ?_); (case side1 => repeat (first | exact (Kd.qAB HR0.out HB.out) | refine sC ?_)); (case side2 => exact HC0.out); rintro e w47 ⟨rfl, hb⟩; refine ⟨_, rfl, ?_⟩; replace BK298 := zK BK298 hb; replace HB := zB hb; (try clear hb hk); (try clear hb)) | (refine boxY 5 #[.string (⟨#[]⟩ : ByteArray), .int .i64 0, .bool false, .int .i64 0, .int .i64 0, .int .i64 0, .int .i64 0] 98 ?_; intro gb307 hg w48 BK307 hb; have GW307 := zg w gb307; have NB298_307 := zl BK298 gb307; have NB307_298 := zu BK298 gb307; replace BK298 := zK BK298 hb; replace HB := zB hb; clear hb hg; have hnb49 := NB307_298.out; have hnc49 := NB298_307.out; have hcz50 := bc7 BK307.out; have hcz51 := bc6 BK298.out) | (refine qBY (some 42) Tryz.func47 #[.slice A0 l0.length c0, .slice A1_2 l1_2.length c1_2] ?_; (with_reducible refine (qAC.calls kj2 _ _ l0 _ _ l1_2 t308 t309 _ ?side1 ?side2 ?side3 ?side4 A20.out).mono ?_); (case side1 => exact Kd.qAB HR0.out zb); (case side2 => exact HC0.out); (case side3 => exact Kd.qAB HR1_2.out zb); (case side4 => exact HC1_2.out); rintro e w52 ⟨rfl, hb⟩; refine ⟨_, rfl, ?_⟩; replace BK298 := zq (qAM (g := gb298) (o := .cells #[.string a1_0, .string a1_1, .slice A1_2 l1_2.length c1_2, .slice A1_3 l1_3.length c1_3, .slice A1_4 l1_4.length c1_4, .int .i64 a1_5] 55 (0, 0)) (by refine zf7 ?_ NB298_307; (with_reducible repeat refine st ?_); exact BK298.out) hb); replace BK307 := zq (qAM (zp7 BK307) hb); replace HB := zB hb; (try clear hb hk); (try clear hb); have hcz53 := bc6 BK298.out) | (refine qBY (some 54) Tryz.func47 #[.slice A0 l0.length c0, .slice A1_3 l1_3.length c1_3] ?_; (with_reducible refine (qAC.calls kj2 _ _ l0 _ _ l1_3 t310 t311 _ ?side1 ?side2 ?side3 ?side4 A23.out).mono ?_); (case side1 => repeat (first | exact (Kd.qAB HR0.out HB.out) | refine sC ?_)); (case side2 => exact HC0.out); (case side3 => repeat (first | exact (Kd.qAB HR1_3.out HB.out) | refine sC ?_)); (case side4 => exact HC1_3.out); rintro e w54 ⟨rfl, hb⟩; refine ⟨_, rfl, ?_⟩; replace BK298 := zK BK298 hb; replace BK307 := zK BK307 hb; replace HB := zB hb; (try clear hb hk); (try clear hb)))
  go_ret
  exact ⟨zf, zb⟩
 obtain ⟨-, c25b0, c25b1, H⟩ | ⟨c25, c25b0, c25b1, H⟩ := y4 H
 rotate_left
 ·obtain rfl := zy H
  have hcz36 := bc6 BK298.out
  go_wp2_with (first | (refine qBY (some 27) Tryz.func46 #[.slice A0 l0.length c0, .string a1_1] ?_; (with_reducible refine (qAU.calls kj2 _ _ l0 a1_1 t299 t300 false t302 t303 t304 t305 true _ ?side1 ?side2 A11.out).mono ?_); (case side1 => repeat (first | exact (Kd.qAB HR0.out HB.out) | refine sC ?_)); (case side2 => exact HC0.out); rintro e w37 ⟨rfl, hb⟩; refine ⟨_, rfl, ?_⟩; replace BK298 := zK BK298 hb; replace HB := zB hb; (try clear hb hk); (try clear hb)) | (refine boxY 5 #[.string (⟨#[]⟩ : ByteArray), .int .i64 0, .bool false, .int .i64 0, .int .i64 0, .int .i64 0, .int .i64 0] 98 ?_; intro gb307 hg w38 BK307 hb; have GW307 := zg w gb307; have NB298_307 := zl BK298 gb307; have NB307_298 := zu BK298 gb307; replace BK298 := zK BK298 hb; replace HB := zB hb; clear hb hg; have hnb39 := NB307_298.out; have hnc39 := NB298_307.out; have hcz40 := bc7 BK307.out; have hcz41 := bc6 BK298.out) | (refine qBY (some 42) Tryz.func47 #[.slice A0 l0.length c0, .slice A1_2 l1_2.length c1_2] ?_; (with_reducible refine (qAC.calls kj2 _ _ l0 _ _ l1_2 t308 t309 _ ?side1 ?side2 ?side3 ?side4 A20.out).mono ?_); (case side1 => exact Kd.qAB HR0.out zb); (case side2 => exact HC0.out); (case side3 => exact Kd.qAB HR1_2.out zb); (case side4 => exact HC1_2.out); rintro e w42 ⟨rfl, hb⟩; refine ⟨_, rfl, ?_⟩; replace BK298 := zq (qAM (g := gb298) (o := .cells #[.string a1_0, .string a1_1, .slice A1_2 l1_2.length c1_2, .slice A1_3 l1_3.length c1_3, .slice A1_4 l1_4.length c1_4, .int .i64 a1_5] 55 (0, 0)) (by refine zf7 ?_ NB298_307; (with_reducible repeat refine st ?_); exact BK298.out) hb); replace BK307 := zq (qAM (zp7 BK307) hb); replace HB := zB hb; (try clear hb hk); (try clear hb); have hcz43 := bc6 BK298.out) | (refine qBY (some 54) Tryz.func47 #[.slice A0 l0.length c0, .slice A1_3 l1_3.length c1_3] ?_; (with_reducible refine (qAC.calls kj2 _ _ l0 _ _ l1_3 t310 t311 _ ?side1 ?side2 ?side3 ?side4 A23.out).mono ?_); (case side1 => repeat (first | exact (Kd.qAB HR0.out HB.out) | refine sC ?_)); (case side2 => exact HC0.out); (case side3 => repeat (first | exact (Kd.qAB HR1_3.out HB.out) | refine sC ?_)); (case side4 => exact HC1_3.out); rintro e w44 ⟨rfl, hb⟩; refine ⟨_, rfl, ?_⟩; replace BK298 := zK BK298 hb; replace BK307 := zK BK307 hb; replace HB := zB hb; (try clear hb hk); (try clear hb); have hcz45 := bc7 BK307.out))
  go_ret
  exact ⟨zf, zb⟩
 obtain rfl := zy H
 have hcz26 := bc6 BK298.out
 go_wp2_with (first | (refine qBY (some 27) Tryz.func46 #[.slice A0 l0.length c0, .string a1_1] ?_; (with_reducible refine (qAU.calls kj2 _ _ l0 a1_1 t299 t300 false t302 t303 t304 t305 true _ ?side1 ?side2 A11.out).mono ?_); (case side1 => repeat (first | exact (Kd.qAB HR0.out HB.out) | refine sC ?_)); (case side2 => exact HC0.out); rintro e w27 ⟨rfl, hb⟩; refine ⟨_, rfl, ?_⟩; replace BK298 := zK BK298 hb; replace HB := zB hb; (try clear hb hk); (try clear hb)) | (refine boxY 5 #[.string (⟨#[]⟩ : ByteArray), .int .i64 0, .bool false, .int .i64 0, .int .i64 0, .int .i64 0, .int .i64 0] 98 ?_; intro gb307 hg w28 BK307 hb; have GW307 := zg w gb307; have NB298_307 := zl BK298 gb307; have NB307_298 := zu BK298 gb307; replace BK298 := zK BK298 hb; replace HB := zB hb; clear hb hg; have hnb29 := NB307_298.out; have hnc29 := NB298_307.out; have hcz30 := bc7 BK307.out; have hcz31 := bc6 BK298.out) | (refine qBY (some 42) Tryz.func47 #[.slice A0 l0.length c0, .slice A1_2 l1_2.length c1_2] ?_; (with_reducible refine (qAC.calls kj2 _ _ l0 _ _ l1_2 t308 t309 _ ?side1 ?side2 ?side3 ?side4 A20.out).mono ?_); (case side1 => exact Kd.qAB HR0.out zb); (case side2 => exact HC0.out); (case side3 => exact Kd.qAB HR1_2.out zb); (case side4 => exact HC1_2.out); rintro e w32 ⟨rfl, hb⟩; refine ⟨_, rfl, ?_⟩; replace BK298 := zq (qAM (g := gb298) (o := .cells #[.string a1_0, .string a1_1, .slice A1_2 l1_2.length c1_2, .slice A1_3 l1_3.length c1_3, .slice A1_4 l1_4.length c1_4, .int .i64 a1_5] 55 (0, 0)) (by refine zf7 ?_ NB298_307; (with_reducible repeat refine st ?_); exact BK298.out) hb); replace BK307 := zq (qAM (zp7 BK307) hb); replace HB := zB hb; (try clear hb hk); (try clear hb); have hcz33 := bc6 BK298.out) | (refine qBY (some 54) Tryz.func47 #[.slice A0 l0.length c0, .slice A1_3 l1_3.length c1_3] ?_; (with_reducible refine (qAC.calls kj2 _ _ l0 _ _ l1_3 t310 t311 _ ?side1 ?side2 ?side3 ?side4 A23.out).mono ?_); (case side1 => repeat (first | exact (Kd.qAB HR0.out HB.out) | refine sC ?_)); (case side2 => exact HC0.out); (case side3 => repeat (first | exact (Kd.qAB HR1_3.out HB.out) | refine sC ?_)); (case side4 => exact HC1_3.out); rintro e w34 ⟨rfl, hb⟩; refine ⟨_, rfl, ?_⟩; replace BK298 := zK BK298 hb; replace BK307 := zK BK307 hb; replace HB := zB hb; (try clear hb hk); (try clear hb); have hcz35 := bc7 BK307.out))
 go_ret
 exact ⟨zf, zb⟩
theorem qBU.info : (Tryz.prog.info? 59).map (fun i => (i.zero, i.size, i.bytes)) = some (some (.agg #[.string ⟨#[]⟩, .string ⟨#[]⟩]), 2, 32) := by kernel_rfl
theorem qBU.walk (ad : Addr) (n c : Nat) (news : List Value) (w : World) (hl : news.length = n * 2) (hn : n ≤ maxLen) (hbig : n * 32 ≤ 140737488355328) (hc : ∀ j u, news[j]? = some u → w.cell? (ad.add j) = some u) (h1 : ∀ u ∈ news, u.oneCell' = true) :
  Calls Tryz.prog 36 #[.slice (some ad) n c] w fun e w' => ∃ v', e = .returned v' ∧ w'.ownsRow w.heap.size 59 2 v' n news ∧ Below w.heap.size w w' := by
 have q22 : ∀ (w : World) (a : Option Addr) (n c n' c' : Nat), (binOp .eql 44 (.slice a n c) (.slice none n' c')).run Tryz.prog w = .ok (.bool a.isNone) w := fun w a n c n' c' => Lib.run_eql_slice_nil w _ _ a n c n' c' Tryz.underlying44
 have A : qA0 (∀ j u, news[j]? = some u → w.cell? (ad.add j) = some u) := ⟨hc⟩
 clear hc
 obtain ⟨i0, hi, hz0, hz1, hz2⟩ := info_parts qBU.info
 go_enter Tryz.func36, Tryz.ntmps36
 go_wp2_with (at_builtin; refine wpList_append_own _ rfl _ _ 44 rfl w.heap.size 59 i0 (.agg #[.string ⟨#[]⟩, .string ⟨#[]⟩]) 2 32 Tryz.underlying44 hi hz0 hz1 hz2 rfl (by decide) _ _ _ rfl (World.ownsRow_made w #[] 0 (Nat.le_refl _) (Nat.zero_le _) (by simp)) ad n c news rfl ?qc1 ?qc2 ?qc3 ?qc4 ?qc5 ?qc6 ?_)
 case qc1 => exact hl
 case qc2 =>
  intro j u hj
  exact Lib.cell?_alloc_some _ (A.out j u hj)
 case qc3 => exact h1
 case qc4 => rw [Nat.zero_add]; exact hn
 case qc5 => rw [Nat.zero_add]; exact hbig
 case qc6 => simp
 intro v' w1 hown hgrow hnil
 go_wp2
 go_ret
 exact ⟨v', rfl, by simpa using hown, ((Below.refl _ w).alloc (Nat.le_refl _) _).grown hgrow (by simp) (by intro k hk; simp [Value.ownBlock] at hk; omega)⟩
theorem qBU.nil (n c : Nat) (w : World) : Calls Tryz.prog 36 #[.slice none n c] w fun e w' => e = .returned (.slice none 0 0) ∧ w' = w := by
 have q22 : ∀ (w : World) (a : Option Addr) (n c n' c' : Nat), (binOp .eql 44 (.slice a n c) (.slice none n' c')).run Tryz.prog w = .ok (.bool a.isNone) w := fun w a n c n' c' => Lib.run_eql_slice_nil w _ _ a n c n' c' Tryz.underlying44
 go_enter Tryz.func36, Tryz.ntmps36
 go_wp2
 go_ret
 exact ⟨rfl, rfl⟩
def qBU.f (l0 : List S59) : Option (List S59) := if l0.length * 32 ≤ 140737488355328 then some l0 else none
def qBU.enc (x : S59) : List Value := [.string x.f0, .string x.f1]
theorem qBU.calls (A0 : Option Addr) (c0 : Nat) (l0 : List S59) (r : List S59) (w : World) (hr0 : Kd.C k59 w A0 l0.length l0) (hc0 : l0.length ≤ c0) (h : qBU.f l0 = some r) :
  Calls Tryz.prog 36 #[.slice A0 l0.length c0] w fun e w' => ∃ v0_ : Value, e = .returned (v0_) ∧ Kd.R k59 59 w' w.heap.size (fun _ => True) v0_ r ∧ Below w.heap.size w w' := by
 unfold qBU.f at h
 by_cases hsz : l0.length * 32 ≤ 140737488355328
 case neg => rw [if_neg hsz] at h; cases h
 rw [if_pos hsz] at h
 obtain rfl := zy h
 clear h
 cases A0 with
 | none =>
  refine (qBU.nil _ _ w).mono ?_
  rintro e w' ⟨rfl, rfl⟩
  have e0 : l0 = [] := by
   rcases Nat.eq_zero_or_pos l0.length with h | h
   ·exact List.length_eq_zero_iff.1 h
   ·obtain ⟨_, h', _⟩ := hr0.2.2 h; cases h'
  subst e0
  exact ⟨_, rfl, Kd.R_nil _ _ _ _ _, Below.refl _ _⟩
 | some ad =>
  have hlen := Gen.flat_len qBU.enc 2 (fun _ => rfl) l0
  refine (qBU.walk ad l0.length c0 (l0.flatMap qBU.enc) w hlen (by simp only [maxLen]; omega) hsz (Gen.flat_cells qBU.enc 2 (by decide) (fun _ => rfl) (fun p c h => k59_open h) hr0) (fun u hu => ?_)).mono ?_
  ·obtain ⟨x, _, hx⟩ := List.mem_flatMap.1 hu
   simp [qBU.enc] at hx
   rcases hx with rfl | rfl <;> rfl
  ·rintro e w' ⟨v', rfl, ho, hB⟩
   exact ⟨v', rfl, ⟨fun _ _ => trivial, _, ho, Gen.flat_reps _ qBU.enc 2 (fun _ => rfl) l0 (fun p => k59_mkM _ _ _ p)⟩, hB⟩
theorem qCL.walk (ad : Addr) (n c : Nat) (news : List Value) (w : World) (hl : news.length = n * 1) (hn : n ≤ maxLen) (hbig : n * 8 ≤ 140737488355328) (hc : ∀ j u, news[j]? = some u → w.cell? (ad.add j) = some u) (h1 : ∀ u ∈ news, u.oneCell' = true) :
  Calls Tryz.prog 58 #[.slice (some ad) n c] w fun e w' => ∃ v', e = .returned v' ∧ w'.ownsRow w.heap.size 3 1 v' n news ∧ Below w.heap.size w w' := by
 have q22 : ∀ (w : World) (a : Option Addr) (n c n' c' : Nat), (binOp .eql 77 (.slice a n c) (.slice none n' c')).run Tryz.prog w = .ok (.bool a.isNone) w := fun w a n c n' c' => Lib.run_eql_slice_nil w _ _ a n c n' c' Tryz.underlying77
 have A : qA0 (∀ j u, news[j]? = some u → w.cell? (ad.add j) = some u) := ⟨hc⟩
 clear hc
 obtain ⟨i0, hi, hz0, hz1, hz2⟩ := info_parts info3
 go_enter Tryz.func58, Tryz.ntmps58
 go_wp2_with (at_builtin; refine wpList_append_own _ rfl _ _ 77 rfl w.heap.size 3 i0 (.int .i64 0) 1 8 Tryz.underlying77 hi hz0 hz1 hz2 rfl (by decide) _ _ _ rfl (World.ownsRow_made w #[] 0 (Nat.le_refl _) (Nat.zero_le _) (by simp)) ad n c news rfl ?qc1 ?qc2 ?qc3 ?qc4 ?qc5 ?qc6 ?_)
 case qc1 => exact hl
 case qc2 =>
  intro j u hj
  exact Lib.cell?_alloc_some _ (A.out j u hj)
 case qc3 => exact h1
 case qc4 => rw [Nat.zero_add]; exact hn
 case qc5 => rw [Nat.zero_add]; exact hbig
 case qc6 => simp
 intro v' w1 hown hgrow hnil
 go_wp2
 go_ret
 exact ⟨v', rfl, by simpa using hown, ((Below.refl _ w).alloc (Nat.le_refl _) _).grown hgrow (by simp) (by intro k hk; simp [Value.ownBlock] at hk; omega)⟩
theorem qCL.nil (n c : Nat) (w : World) : Calls Tryz.prog 58 #[.slice none n c] w fun e w' => e = .returned (.slice none 0 0) ∧ w' = w := by
 have q22 : ∀ (w : World) (a : Option Addr) (n c n' c' : Nat), (binOp .eql 77 (.slice a n c) (.slice none n' c')).run Tryz.prog w = .ok (.bool a.isNone) w := fun w a n c n' c' => Lib.run_eql_slice_nil w _ _ a n c n' c' Tryz.underlying77
 go_enter Tryz.func58, Tryz.ntmps58
 go_wp2
 go_ret
 exact ⟨rfl, rfl⟩
def qCL.f (l0 : List Int) : Option (List Int) := if l0.length * 8 ≤ 140737488355328 then some l0 else none
def qCL.enc (x : Int) : List Value := [.int .i64 x]
theorem qCL.calls (A0 : Option Addr) (c0 : Nat) (l0 : List Int) (r : List Int) (w : World) (hr0 : Kd.C (Kd.int .i64) w A0 l0.length l0) (hc0 : l0.length ≤ c0) (h : qCL.f l0 = some r) :
  Calls Tryz.prog 58 #[.slice A0 l0.length c0] w fun e w' => ∃ v0_ : Value, e = .returned (v0_) ∧ Kd.R (Kd.int .i64) 3 w' w.heap.size (fun _ => True) v0_ r ∧ Below w.heap.size w w' := by
 unfold qCL.f at h
 by_cases hsz : l0.length * 8 ≤ 140737488355328
 case neg => rw [if_neg hsz] at h; cases h
 rw [if_pos hsz] at h
 obtain rfl := zy h
 clear h
 cases A0 with
 | none =>
  refine (qCL.nil _ _ w).mono ?_
  rintro e w' ⟨rfl, rfl⟩
  have e0 : l0 = [] := by
   rcases Nat.eq_zero_or_pos l0.length with h | h
   ·exact List.length_eq_zero_iff.1 h
   ·obtain ⟨_, h', _⟩ := hr0.2.2 h; cases h'
  subst e0
  exact ⟨_, rfl, Kd.R_nil _ _ _ _ _, Below.refl _ _⟩
 | some ad =>
  have hlen := Gen.flat_len qCL.enc 1 (fun _ => rfl) l0
  refine (qCL.walk ad l0.length c0 (l0.flatMap qCL.enc) w hlen (by simp only [maxLen]; omega) hsz (Gen.flat_cells qCL.enc 1 (by decide) (fun _ => rfl) (fun p c h => h) hr0) (fun u hu => ?_)).mono ?_
  ·obtain ⟨x, _, hx⟩ := List.mem_flatMap.1 hu
   simp [qCL.enc] at hx
   subst hx; rfl
  ·rintro e w' ⟨v', rfl, ho, hB⟩
   exact ⟨v', rfl, ⟨fun _ _ => trivial, _, ho, Gen.flat_reps _ qCL.enc 1 (fun _ => rfl) l0 (fun p => rfl)⟩, hB⟩
def qBN.l0 : Nat → List (S79) → List (S79) → Int → Int → Option ((List (S79)))
 | 0, _, _, _, _ => none
 | k + 1, x3, x6, x7, x8 => if x8 < x7 then (if 0 ≤ x8 then (if x8 < (x6.length : Int) then ((qCL.f ((qA3 x6 x8).f1)).bind fun t316 => (if x3.length < 2199023255552 then (qBN.l0 k (x3 ++ [(⟨(qA3 x6 x8).f0, t316, (qA3 x6 x8).f2, (qA3 x6 x8).f3, (qA3 x6 x8).f4⟩ : S79)]) x6 x7 (wrap64 (x8 + 1))) else (none))) else (none)) else (none)) else (some x3)
def qBN.f (k : Nat) (l0 : List (S79)) : Option ((List (S79))) := qBN.l0 k ([] : List (S79)) l0 (l0.length : Int) 0
theorem qBN.qBT : ∀ k, (∀ y0 y1 y2 y3, LeO (qBN.l0 k y0 y1 y2 y3) (qBN.l0 (k + 1) y0 y1 y2 y3))
 | 0 => fun _ _ _ _ r h => by simp [qBN.l0] at h
 | k + 1 => by
  have ih0 := qBN.qBT k
  ·intro y0 y1 y2 y3
   unfold qBN.l0
   exact zm
theorem qBN.mono : ∀ a0 k, LeO (qBN.f k a0) (qBN.f (k + 1) a0) := by
 intro a0 k
 have ih0 := qBN.qBT k
 unfold qBN.f
 exact zm
theorem qBN.calls (k : Nat) (A0 : Option Addr) (c0 : Nat) (l0 : List (S79)) (r : List (S79)) (w : World) (hr0 : Kd.C k79 w A0 l0.length l0) (hc0 : l0.length ≤ c0) (h : qBN.f k l0 = some r) :
  Calls Tryz.prog 96 #[.slice A0 l0.length c0] w fun e w' => ∃ v0_ : Value, e = .returned (v0_) ∧ Kd.S k79 79 w' w.heap.size (fun _ => True) v0_ r ∧ Below w.heap.size w w' := by
 have hu79 := Tryz.underlying79
 have HR0 := zq hr0
 have HC0 := zq hc0
 clear hr0 hc0
 have HB := zq (Below.refl w.heap.size w)
 have H := h
 unfold qBN.f at H
 clear h
 have H' := zq H
 clear H
 go_enter Tryz.func96, Tryz.ntmps96
 go_wp2
 go_loopg [3, 8] k (fun kq v3 v8 w' => ∃ (x3_1 : List (S79)) (x8_1 : Int), v8 = .int .i64 x8_1 ∧ qA0 (qBN.l0 kq x3_1 l0 (l0.length : Int) x8_1 = some r) ∧ qA0 (kq ≤ k) ∧ qA0 (Kd.S k79 79 w' w.heap.size (fun _ => True) v3 x3_1) ∧ qA0 (Below w.heap.size w w'))
 case atStart => exact ⟨(([] : List (S79))), (0), zs, H', ⟨Nat.le_refl _⟩, ⟨by first | exact Kd.S_nil _ _ _ _ _ | exact Kd.N_nil _ _ _ _ _ | exact Kd.V_nil _ _ _ _ _ | exact Kd.Q_nil _ _ _ _ _ | exact Kd.R_nil _ _ _ _ _⟩, ⟨zb⟩⟩
 clear H'
 obtain ⟨x3_1, x8_1, rfl, HA, HK1, HO_3, HB⟩ := hrel
 obtain _ | k1 := gk
 ·exact absurd HA.out (by simp [qBN.l0])
 have H := HA.out
 clear HA
 simp only [qBN.l0] at H
 obtain ⟨-, c2b0, H⟩ | ⟨-, c2b0, H⟩ := y3 H
 rotate_left
 ·obtain rfl := zy H
  go_wp2
  go_ret
  exact ⟨_, zf, by (with_reducible repeat refine sS ?_); exact HO_3.out, zb⟩
 obtain ⟨-, c3b0, H⟩ := y1 H
 obtain ⟨-, c4b0, H⟩ := y1 H
 replace H := zi H
 obtain ⟨t316, A50, H⟩ := H
 have A5 := zq A50
 clear A50
 obtain ⟨c6, -, H⟩ := y1 H
 have LMc6 := zq c6
 clear c6
 obtain ⟨y319, hy_⟩ : ∃ y_ : List (S79), y_ = (x3_1 ++ [(⟨(qA3 l0 x8_1).f0, t316, (qA3 l0 x8_1).f2, (qA3 l0 x8_1).f3, (qA3 l0 x8_1).f4⟩ : S79)]) := ⟨_, rfl⟩
 replace H : (qBN.l0 k1 y319 l0 (l0.length : Int) (wrap64 (x8_1 + 1))) = some r := zr
 have Ny319 := zq hy_
 clear hy_
 have H' := zq H
 clear H
 obtain ⟨p314, q314, ad314, A314_1, c314_1, e314, hx314_0, hx314_1, hx314_2, hx314_3, hx314_4, hl314_1, hi314_1⟩ := yp (at_T79 HR0.out x8_1)
 cases e314
 (try replace hx314_0 := zh hx314_0)
 replace hx314_1 := zh hx314_1
 replace hx314_2 := zh hx314_2
 replace hx314_3 := zh hx314_3
 replace hx314_4 := zh hx314_4
 have HR314_1 := zq hi314_1
 have HC314_1 := zq hl314_1
 clear hi314_1 hl314_1
 go_wp2_with (first | (refine boxY 5 #[.int .i64 0, .slice none 0 0, .int .i64 0, .int .i64 0, .string (⟨#[]⟩ : ByteArray)] 79 ?_; intro gb315 hg w7 BK315 hb; have GW315 := zg w gb315; replace HO_3 := zq (Kd.qDY (Kd.S_elderB (by (with_reducible repeat refine sS ?_); exact HO_3.out) gb315 (Nat.le_of_eq hg.symm)) hb); replace HB := zB hb; clear hb hg; have hcz8 := bc5 BK315.out) | (refine qBY (some 14) Tryz.func58 #[.slice A314_1 ((qA3 l0 x8_1).f1).length c314_1] ?_; (with_reducible refine (qCL.calls _ _ ((qA3 l0 x8_1).f1) t316 _ ?side1 ?side2 A5.out).mono ?_); (case side1 => exact Kd.qAB HR314_1.out zb); (case side2 => exact HC314_1.out); rintro e w9 ⟨v317, rfl, ho0, hb⟩; refine ⟨_, rfl, ?_⟩; have HO318 := zq (Kd.qC3 ho0 (qAH zb)); replace HO_3 := zq (Kd.S_elder' (by (with_reducible repeat refine sS ?_); exact (zSf5 (Kd.qDX HO_3.out (fun k_ hk => (⟨hk, hk.2⟩ : _ ∧ k_ ≠ gb315))))) (Kd.qEV ho0) hb); replace BK315 := zq (qAM (zp5 BK315) hb); replace HB := zB hb; (try clear hb hk); (try clear hb); (try clear ho0); obtain ⟨Ao10, co10, eo10⟩ := Kd.qBX HO318.out; subst eo10; have hcz11 := bc5 BK315.out) | ((with_reducible refine qC8 (t := 77) (p := 15) rfl ?_); refine qDT (t := 77) (p := 15) (v := ?vo_w12) (w1 := (w9.setCell ⟨gb315, 1, none⟩ (.slice Ao10 t316.length co10))) ?hg ?ho ?hn ?hr ?_; (case ho => rfl); (case hg => rfl); (case hn => rfl); (case hr => first | (go_simp; done) | (go_simp; rfl)); intro w12 hw; have n0_ : qA0 (Kd.S k79 79 w12 w.heap.size (fun k_ => some k_ ≠ (.slice Ao10 t316.length co10 : Value).ownBlock ∧ k_ ≠ gb315) u3 x3_1) := ⟨(by rw [hw]; exact (by (with_reducible repeat refine sS ?_); exact Kd.qDX (Kd.qCA (Kd.qDX HO_3.out (fun k_ hk => (⟨hk, hk.1.2⟩ : _ ∧ k_ ≠ gb315))) (fun _ hk => hk.2) _) (fun _ hk => ⟨hk.1.2, hk.1.1.2⟩)))⟩; have n1_ : qA0 (Kd.R (Kd.int .i64) 3 w12 w.heap.size (fun _ => True) (.slice Ao10 t316.length co10) t316) := ⟨(by rw [hw]; exact (by (with_reducible repeat refine sR ?_); exact Kd.qB3 (Kd.qAW (Kd.qBW HO318.out BK315.out (by decide)) (fun _ hk => hk.2) _) (fun _ hk => trivial)))⟩; have n2_ : qA0 (w12.heap[gb315]? = some (.cells #[.int .i64 ((qA3 l0 x8_1).f0), .slice Ao10 t316.length co10, .int .i64 ((qA3 l0 x8_1).f2), .int .i64 ((qA3 l0 x8_1).f3), .string ((qA3 l0 x8_1).f4)] 79 (0, 0))) := ⟨(by rw [hw]; exact (by refine zp_ (cs := #[.int .i64 ((qA3 l0 x8_1).f0), .slice A314_1 ((qA3 l0 x8_1).f1).length c314_1, .int .i64 ((qA3 l0 x8_1).f2), .int .i64 ((qA3 l0 x8_1).f3), .string ((qA3 l0 x8_1).f4)]) ?_ 1; (with_reducible repeat refine st ?_); exact BK315.out))⟩; have n3_ : qA0 (Below w.heap.size w w12) := ⟨(by rw [hw]; exact zb)⟩; clear hw; clear HO_3; clear HO318; clear BK315; clear HB; have HO_3 := n0_; have HO318 := n1_; have BK315 := n2_; have HB := n3_; clear n0_ n1_ n2_ n3_; have hcz13 := bc5 BK315.out) | ((with_reducible refine qDV (b := .append) (xs := #[.tmp 16, .tmp 18]) rfl ?_); at_builtin; refine Kd.S_append k79 (w0 := w) w.heap.size rfl (.tmp 16) (.tmp 18) 53 79 (.agg #[(.int .i64 0), (.slice none 0 0), (.int .i64 0), (.int .i64 0), (.string ⟨#[]⟩)]) 64 rfl Tryz.underlying53 info79 rfl (by decide) (by omega) u3 x3_1 (⟨(qA3 l0 x8_1).f0, t316, (qA3 l0 x8_1).f2, (qA3 l0 x8_1).f3, (qA3 l0 x8_1).f4⟩ : S79) [.int .i64 ((qA3 l0 x8_1).f0), .slice Ao10 t316.length co10, .int .i64 ((qA3 l0 x8_1).f2), .int .i64 ((qA3 l0 x8_1).f3), .string ((qA3 l0 x8_1).f4)] (fun k_ => k_ ≠ gb315) (fun k_ => some k_ = (.slice Ao10 t316.length co10 : Value).ownBlock) rfl rfl ?aP (fun k_ hk_ => ((Kd.qB3 (ok' := fun k_ => ((fun k_ => k_ ≠ gb315)) k_ ∧ some k_ ≠ (u3 : Value).ownBlock) (Kd.qBW (Kd.R_apart' (HO318.out) (Kd.S_typed HO_3.out) (by decide)) BK315.out (by decide)) (fun k_ hk => ⟨hk.2, hk.1.2⟩))).1 k_ hk_.symm) ?aF ?aO ?aB ?aS ?aL ?_; (case aP => exact k79_mkM _ _ _ (⟨(qA3 l0 x8_1).f0, t316, (qA3 l0 x8_1).f2, (qA3 l0 x8_1).f3, (qA3 l0 x8_1).f4⟩ : S79) (Kd.qB3 (Kd.qFO rfl (Kd.qB3 (ok' := fun k_ => ((fun k_ => k_ ≠ gb315)) k_ ∧ some k_ ≠ (u3 : Value).ownBlock) (Kd.qBW (Kd.R_apart' (HO318.out) (Kd.S_typed HO_3.out) (by decide)) BK315.out (by decide)) (fun k_ hk => ⟨hk.2, hk.1.2⟩))) (fun _ h_ => h_))); (case aB => exact zb); (case aF => exact (fun k_ hk => Kd.freshB (g := gb315) (o := .cells #[.int .i64 ((qA3 l0 x8_1).f0), .slice Ao10 t316.length co10, .int .i64 ((qA3 l0 x8_1).f2), .int .i64 ((qA3 l0 x8_1).f3), .string ((qA3 l0 x8_1).f4)] 79 (0, 0)) (zk BK315) k_ hk)); (case aO => exact (by (with_reducible repeat refine sS ?_); exact Kd.qDX HO_3.out (fun k_ hk => ⟨hk.2, fun e_ => hk.1 e_⟩))); (case aS => exact (qAH zb)); (case aL => have := LMc6.out; omega); intro v320 w14 ho hb hg hat; rw [← Ny319.out] at ho; have HO321 := zq (ho); replace BK315 := zq (qAF (g := gb315) (o := .cells #[.int .i64 ((qA3 l0 x8_1).f0), .slice Ao10 t316.length co10, .int .i64 ((qA3 l0 x8_1).f2), .int .i64 ((qA3 l0 x8_1).f3), .string ((qA3 l0 x8_1).f4)] 79 (0, 0)) (zk BK315) hg (Kd.S_away HO_3.out (fun _ hk => hk.2))); replace HB := zq (hb); clear HO_3; clear HO318; clear ho hb hg hat))
 go_roundg k1
 case measure => have := HK1.out; omega
 case rel => exact ⟨(y319), (wrap64 (x8_1 + 1)), zs, H', ⟨by have := HK1.out; omega⟩, ⟨by (with_reducible repeat refine sS ?_); exact Kd.qDX HO321.out (fun _ hk => trivial)⟩, ⟨zb⟩⟩
attribute [local go_sem high] eqA59
def qAX.f (k : Nat) (a0_0 : ByteArray) (a0_1 : ByteArray) (l0_2 : List (S79)) (l0_3 : List (S79)) (l0_4 : List (S59)) (a0_5 : Int) : Option (ByteArray × ByteArray × (List (S79)) × (List (S79)) × (List (S59)) × Int) := (qBN.f k l0_2).bind fun t324 => ((qBN.f k l0_3).bind fun t327 => ((qBU.f l0_4).bind fun t330 => (some (a0_0, a0_1, t324, t327, t330, a0_5))))
theorem qAX.mono : ∀ a0 a1 a2 a3 a4 a5 k, LeO (qAX.f k a0 a1 a2 a3 a4 a5) (qAX.f (k + 1) a0 a1 a2 a3 a4 a5) := by
 intro a0 a1 a2 a3 a4 a5 k
 unfold qAX.f
 have im0 := @qBN.mono
 exact zm
def qAX.T1 : Bool × List (List Nat × List Nat) := (true, [([], []), ([0], [0]), ([1], [1]), ([], []), ([3], [3]), ([4, 2], [4]), ([], []), ([6], [6]), ([7, 5], [7]), ([0, 1, 2, 3, 4, 6, 7], []), ([9, 2, 8, 0, 1, 2, 3, 4, 6, 7], [2, 9]), ([0, 1, 2, 3, 4, 5, 6, 7, 9, 10], []), ([11, 5, 10, 0, 1, 2, 3, 4, 5, 6, 7, 9, 10], [5, 11]), ([0, 1, 2, 3, 4, 5, 6, 7, 8, 9, 10, 11, 12], []), ([13, 8, 12, 0, 1, 2, 3, 4, 5, 6, 7, 8, 9, 10, 11, 12], [8, 13])])
def qAX.B1 : List Nat := [0, 1, 3, 0, 8, 31, 0, 64, 255, 223, 1023, 2047, 4095, 8191, 16383]
theorem qAX.tab1 : rtab .any (opsOf Tryz.f73 1) = qAX.T1 := by kernel_rfl
theorem qAX.bits1 : qEK qAX.T1.2 qAX.B1 = true := by kernel_rfl
set_option maxHeartbeats 8000000 in
set_option maxRecDepth 100000 in
theorem qAX.calls (k : Nat) (a0_0 : ByteArray) (a0_1 : ByteArray) (A0_2 : Option Addr) (c0_2 : Nat) (l0_2 : List (S79)) (A0_3 : Option Addr) (c0_3 : Nat) (l0_3 : List (S79)) (A0_4 : Option Addr) (c0_4 : Nat) (l0_4 : List (S59)) (a0_5 : Int) (r1 : ByteArray) (r2 : ByteArray) (r3 : List (S79)) (r4 : List (S79)) (r5 : List (S59)) (r6 : Int) (w : World) (hr0_2 : Kd.C k79 w A0_2 l0_2.length l0_2) (hc0_2 : l0_2.length ≤ c0_2) (hr0_3 : Kd.C k79 w A0_3 l0_3.length l0_3) (hc0_3 : l0_3.length ≤ c0_3) (hr0_4 : Kd.C k59 w A0_4 l0_4.length l0_4) (hc0_4 : l0_4.length ≤ c0_4) (h : qAX.f k a0_0 a0_1 l0_2 l0_3 l0_4 a0_5 = some (r1, r2, r3, r4, r5, r6)) :
  Calls Tryz.prog 73 #[.agg #[.string a0_0, .string a0_1, .slice A0_2 l0_2.length c0_2, .slice A0_3 l0_3.length c0_3, .slice A0_4 l0_4.length c0_4, .int .i64 a0_5]] w fun e w' => ∃ v2_ v3_ v4_ : Value, e = .returned (.agg #[.string r1, .string r2, v2_, v3_, v4_, .int .i64 r6]) ∧ Kd.S k79 79 w' w.heap.size (fun k_ => some k_ ≠ (v3_ : Value).ownBlock) v2_ r3 ∧ Kd.S k79 79 w' w.heap.size (fun k_ => some k_ ≠ (v2_ : Value).ownBlock) v3_ r4 ∧ Kd.R k59 59 w' w.heap.size (fun _ => True) v4_ r5 ∧ Below w.heap.size w w' := by
 have hu55 := Tryz.underlying55
 have HR0_2 := zq hr0_2
 have HC0_2 := zq hc0_2
 clear hr0_2 hc0_2
 have HR0_3 := zq hr0_3
 have HC0_3 := zq hc0_3
 clear hr0_3 hc0_3
 have HR0_4 := zq hr0_4
 have HC0_4 := zq hc0_4
 clear hr0_4 hc0_4
 have HB := zq (Below.refl w.heap.size w)
 have H : ((qBN.f k l0_2).bind fun t324 => ((qBN.f k l0_3).bind fun t327 => ((qBU.f l0_4).bind fun t330 => (some (a0_0, a0_1, t324, t327, t330, a0_5))))) = some (r1, r2, r3, r4, r5, r6) := h
 clear h
 replace H := Option.bind_eq_some_iff.mp H
 obtain ⟨t324, A20, H⟩ := H
 have A2 := zq A20
 clear A20
 replace H := Option.bind_eq_some_iff.mp H
 obtain ⟨t327, A30, H⟩ := H
 have A3 := zq A30
 clear A30
 replace H := Option.bind_eq_some_iff.mp H
 obtain ⟨t330, A40, H⟩ := H
 have A4 := zq A40
 clear A40
 simp only [Option.some.injEq, Prod.mk.injEq] at H
 obtain ⟨rfl, rfl, rfl, rfl, rfl, rfl⟩ := H
 go_enter Tryz.func73, Tryz.ntmps73
 try go_wp2_with (first | ((with_reducible refine qAS (N := 1) rfl ?_); refine qDQ ?hg (N := 1) ?hd (cs := #[.string a0_0, .string a0_1, .slice A0_2 l0_2.length c0_2, .slice A0_3 l0_3.length c0_3, .slice A0_4 l0_4.length c0_4, .int .i64 a0_5]) (t := 55) ?hr ?_; (case hd => rfl); (case hg => rfl); (case hr => first | (go_simp; done) | (go_simp; rfl)); intro gb322 hg w5 hbox hb; have BK322 := zq (hbox); have GW322 := zg w gb322; replace HB := zq (qA7 zb hb); clear hb hbox hg) | ((with_reducible refine qAS (N := 2) rfl ?_); refine qDQ ?hg (N := 2) ?hd (cs := #[.string (⟨#[]⟩ : ByteArray), .string (⟨#[]⟩ : ByteArray), .slice none 0 0, .slice none 0 0, .slice none 0 0, .int .i64 0]) (t := 55) ?hr ?_; (case hd => rfl); (case hg => rfl); (case hr => first | (go_simp; done) | (go_simp; rfl)); intro gb323 hg w6 hbox hb; have BK323 := zq (hbox); have GW323 := zg w gb323; have NB322_323 := zl BK322 gb323; have NB323_322 := zu BK322 gb323; replace BK322 := zq (qAM (zk BK322) hb); replace HB := zq (qA7 zb hb); clear hb hbox hg))
 replace BK322 := zq (qB7 BK322.out)
 replace BK323 := zq (qB7 BK323.out)
 replace HB := zq (qBP HB.out)
 refine qF4 (n := 15) (S := fun w' => w'.cell? ⟨gb322, 0, none⟩ = some (.string a0_0) ∧ w'.cell? ⟨gb322, 1, none⟩ = some (.string a0_1) ∧ w'.cell? ⟨gb322, 2, none⟩ = some (.slice A0_2 l0_2.length c0_2) ∧ w'.cell? ⟨gb322, 3, none⟩ = some (.slice A0_3 l0_3.length c0_3) ∧ w'.cell? ⟨gb322, 4, none⟩ = some (.slice A0_4 l0_4.length c0_4) ∧ w'.cell? ⟨gb322, 5, none⟩ = some (.int .i64 a0_5)) (ds := [10, 12, 14]) (bs 15 0) (by kernel_rfl) rfl rfl ⟨(qA1 BK322.out 0).trans rfl, (qA1 BK322.out 1).trans rfl, (qA1 BK322.out 2).trans rfl, (qA1 BK322.out 3).trans rfl, (qA1 BK322.out 4).trans rfl, (qA1 BK322.out 5).trans rfl⟩ (fun hHeld => ?_); refine qDF qAX.tab1 qAX.bits1 (fun HT_ HW_ => ?_)
 generalize w6.drew = w7 at BK322 BK323 HB hHeld ⊢
 refine qBK (i := 0) (N := some 3) (bs 15 1) ?_
 refine qBK (i := 3) (N := some 6) (bs 15 9) ?_
 refine qBK (i := 6) (N := some 9) (bs 15 73) ?_
 refine qEM (i := 1) (N := some 4) (bs 15 75) ?_
 refine qEM (i := 4) (N := some 7) (bs 15 91) ?_
 refine qEM (i := 7) (N := some 10) (bs 15 219) ?_
 refine one_ (i := 2) (N := some 5) (bs 15 223) rfl rfl (qDU HT_.out (by kernel_rfl)) (by decide) (fun K hK => ?_)
 refine qFZ Tryz.func96 (by kernel_rfl) rfl #[.slice A0_2 l0_2.length c0_2] (by rfl) rfl rfl (by (try simp only [List.map_toArray, List.map_cons, List.map_nil]); first | done | rfl | (simp only [List.length_drop, List.length_take]; rfl)) ?_
 with_reducible refine (qBN.calls k _ _ l0_2 t324 _ ?side1 ?side2 A2.out).mono ?_
 (case side1 => repeat (first | exact (Kd.qAB HR0_2.out HB.out) | refine sC ?_))
 (case side2 => exact HC0_2.out)
 rintro e w8 ⟨v325, rfl, ho0, hb⟩
 refine ⟨_, rfl, ?_⟩
 have HO326 := zq (Kd.qFN ho0 (qAH zb))
 replace BK322 := zq (qAM (zk BK322) hb)
 replace BK323 := zq (qAM (zk BK323) hb)
 replace HB := zq (qA7 zb hb)
 (try clear hb)
 (try clear hb2)
 (try clear hk)
 (try clear hi)
 (try clear ho0)
 refine hK.out _ _ ⟨(qA1 BK322.out 0).trans rfl, (qA1 BK322.out 1).trans rfl, (qA1 BK322.out 2).trans rfl, (qA1 BK322.out 3).trans rfl, (qA1 BK322.out 4).trans rfl, (qA1 BK322.out 5).trans rfl⟩ (fun hHeld => ?_)
 clear hK K
 refine qFQ ?_
 refine qBK (i := 9) (N := some 12) (bs 15 735) ?_
 refine one_ (i := 5) (N := some 8) (bs 15 767) rfl rfl (qDU HT_.out (by kernel_rfl)) (by decide) (fun K hK => ?_)
 refine qFZ Tryz.func96 (by kernel_rfl) rfl #[.slice A0_3 l0_3.length c0_3] (by rfl) rfl rfl (by (try simp only [List.map_toArray, List.map_cons, List.map_nil]); first | done | rfl | (simp only [List.length_drop, List.length_take]; rfl)) ?_
 with_reducible refine (qBN.calls k _ _ l0_3 t327 _ ?side1 ?side2 A3.out).mono ?_
 (case side1 => repeat (first | exact (Kd.qAB HR0_3.out HB.out) | refine sC ?_))
 (case side2 => exact HC0_3.out)
 rintro e w9 ⟨v328, rfl, ho0, hb⟩
 refine ⟨_, rfl, ?_⟩
 have HO329 := zq (Kd.qFN (Kd.S_new' ho0 (Kd.S_lt (by (with_reducible repeat refine sS ?_); exact HO326.out))) (qAH zb))
 replace HO326 := zq (Kd.S_elder' (by (with_reducible repeat refine sS ?_); exact HO326.out) (Kd.S_base ho0) hb)
 replace BK322 := zq (qAM (zk BK322) hb)
 replace BK323 := zq (qAM (zk BK323) hb)
 replace HB := zq (qA7 zb hb)
 (try clear hb)
 (try clear hb2)
 (try clear hk)
 (try clear hi)
 (try clear ho0)
 refine hK.out _ _ ⟨(qA1 BK322.out 0).trans rfl, (qA1 BK322.out 1).trans rfl, (qA1 BK322.out 2).trans rfl, (qA1 BK322.out 3).trans rfl, (qA1 BK322.out 4).trans rfl, (qA1 BK322.out 5).trans rfl⟩ (fun hHeld => ?_)
 clear hK K
 refine qFQ ?_
 refine one_ (i := 8) (N := some 11) (bs 15 1023) rfl rfl (qDU HT_.out (by kernel_rfl)) (by decide) (fun K hK => ?_)
 refine qFZ Tryz.func36 (by kernel_rfl) rfl #[.slice A0_4 l0_4.length c0_4] (by rfl) rfl rfl (by (try simp only [List.map_toArray, List.map_cons, List.map_nil]); first | done | rfl | (simp only [List.length_drop, List.length_take]; rfl)) ?_
 with_reducible refine (qBU.calls _ _ l0_4 t330 _ ?side1 ?side2 A4.out).mono ?_
 (case side1 => repeat (first | exact (Kd.qAB HR0_4.out HB.out) | refine sC ?_))
 (case side2 => exact HC0_4.out)
 rintro e w10 ⟨v331, rfl, ho0, hb⟩
 refine ⟨_, rfl, ?_⟩
 have HO332 := zq (Kd.qC3 ho0 (qAH zb))
 replace HO326 := zq (Kd.qDY (by (with_reducible repeat refine sS ?_); exact HO326.out) hb)
 replace HO329 := zq (Kd.qDY (by (with_reducible repeat refine sS ?_); exact HO329.out) hb)
 replace BK322 := zq (qAM (zk BK322) hb)
 replace BK323 := zq (qAM (zk BK323) hb)
 replace HB := zq (qA7 zb hb)
 (try clear hb)
 (try clear hb2)
 (try clear hk)
 (try clear hi)
 (try clear ho0)
 obtain ⟨Ao11, co11, eo11⟩ := Kd.qFM HO326.out
 (first | subst eo11 | (injection eo11 with f1_ f2_ f3_; have f4_ := f1_.symm; have f5_ := f3_.symm; clear f1_ f2_ f3_; subst f4_; subst f5_))
 obtain ⟨Ao13, co13, eo13⟩ := Kd.qFM HO329.out
 (first | subst eo13 | (injection eo13 with f1_ f2_ f3_; have f4_ := f1_.symm; have f5_ := f3_.symm; clear f1_ f2_ f3_; subst f4_; subst f5_))
 obtain ⟨Ao15, co15, eo15⟩ := Kd.qBX HO332.out
 (first | subst eo15 | (injection eo15 with f1_ f2_ f3_; have f4_ := f1_.symm; have f5_ := f3_.symm; clear f1_ f2_ f3_; subst f4_; subst f5_))
 refine hK.out _ _ ⟨(qA1 BK322.out 0).trans rfl, (qA1 BK322.out 1).trans rfl, (qA1 BK322.out 2).trans rfl, (qA1 BK322.out 3).trans rfl, (qA1 BK322.out 4).trans rfl, (qA1 BK322.out 5).trans rfl⟩ (fun hHeld => ?_)
 clear hK K
 refine qFQ ?_
 refine last_ (i := 10) (N := none) (bs 15 2047) rfl rfl (qDU HT_.out (by kernel_rfl)) (by decide) (fun K hK => ?_)
 have hs12 : w10.cell? ⟨gb322, 2, none⟩ = some (.slice A0_2 l0_2.length c0_2) := (qA1 BK322.out 2).trans rfl
 have hfs12 := qAZ BK322.out 2
 have hns12_1 := NB323_322.out
 have hms12_1 := NB322_323.out
 refine skip_ (w1 := ?_) (by rfl) rfl ?_ ?_
 rotate_left
 ·go_simp
  rfl
 refine hK.out _ _ ?_
 clear hK K
 refine qBK (i := 11) (N := some 13) (bs 15 4095) ?_
 refine last_ (i := 12) (N := none) (bs 15 8191) rfl rfl (qDU HT_.out (by kernel_rfl)) (by decide) (fun K hK => ?_)
 have hs14 : w10.cell? ⟨gb322, 3, none⟩ = some (.slice A0_3 l0_3.length c0_3) := (qA1 BK322.out 3).trans rfl
 have hfs14 := qAZ BK322.out 3
 have hns14_1 := NB323_322.out
 have hms14_1 := NB322_323.out
 refine skip_ (w1 := ?_) (by rfl) rfl ?_ ?_
 rotate_left
 ·go_simp
  rfl
 refine hK.out _ _ ?_
 clear hK K
 refine qBK (i := 13) (N := some 14) (bs 15 16383) ?_
 refine last_ (i := 14) (N := none) (bs 15 32767) rfl rfl (qDU HT_.out (by kernel_rfl)) (by decide) (fun K hK => ?_)
 have hs16 : w10.cell? ⟨gb322, 4, none⟩ = some (.slice A0_4 l0_4.length c0_4) := (qA1 BK322.out 4).trans rfl
 have hfs16 := qAZ BK322.out 4
 have hns16_1 := NB323_322.out
 have hms16_1 := NB322_323.out
 refine skip_ (w1 := ?_) (by rfl) rfl ?_ ?_
 rotate_left
 ·go_simp
  rfl
 refine hK.out _ _ ?_
 clear hK K
 refine done_ (qCQ HT_.out (by kernel_rfl)) ?_
 have hnb17 := NB322_323.out
 have hnc17 := NB323_322.out
 have hcz18 := bc6 BK322.out
 have hcz19 := bc6 BK323.out
 try go_wp2
 refine bodyPost_ret (results_cell_row rfl _ _ gb323 55 #[.string a0_0, .string a0_1, .slice Ao11 t324.length co11, .slice Ao13 t327.length co13, .slice Ao15 t330.length co15, .int .i64 a0_5] (0, 0) _ rfl (by refine zp_ (cs := #[.string a0_0, .string a0_1, .slice Ao11 t324.length co11, .slice Ao13 t327.length co13, .slice Ao15 t330.length co15, .int .i64 0]) ?_ 5; refine zp_ (cs := #[.string a0_0, .string a0_1, .slice Ao11 t324.length co11, .slice Ao13 t327.length co13, .slice none 0 0, .int .i64 0]) ?_ 4; refine zp_ (cs := #[.string a0_0, .string a0_1, .slice Ao11 t324.length co11, .slice none 0 0, .slice none 0 0, .int .i64 0]) ?_ 3; refine zp_ (cs := #[.string a0_0, .string a0_1, .slice none 0 0, .slice none 0 0, .slice none 0 0, .int .i64 0]) ?_ 2; (with_reducible repeat refine st ?_); refine qC2 (cs := #[.string a0_0, .string (⟨#[]⟩ : ByteArray), .slice none 0 0, .slice none 0 0, .slice none 0 0, .int .i64 0]) ?_ 1 _ rfl; (with_reducible repeat refine st ?_); refine qC2 (cs := #[.string (⟨#[]⟩ : ByteArray), .string (⟨#[]⟩ : ByteArray), .slice none 0 0, .slice none 0 0, .slice none 0 0, .int .i64 0]) ?_ 0 _ rfl; refine zf_ ?_ NB323_322; refine zf_ ?_ NB323_322; refine zf_ ?_ NB323_322; (with_reducible repeat refine st ?_); exact BK323.out) Tryz.underlying55 rfl (by kernel_rfl)) rfl ?_
 exact ⟨_, _, _, zf, by (with_reducible repeat refine sS ?_); exact Kd.qDX (Kd.qCA (Kd.qCA (Kd.qCA (Kd.qCA (Kd.qCA (Kd.qCA (Kd.qCA (Kd.qCA (Kd.qCA (Kd.qEO (Kd.qEO HO326.out BK322.out (by decide)) BK323.out (by decide)) (fun _ hk => hk.1.2) _) (fun _ hk => hk.1.2) _) (fun _ hk => hk.1.2) _) (fun _ hk => hk.2) _) (fun _ hk => hk.2) _) (fun _ hk => hk.2) _) (fun _ hk => hk.2) _) (fun _ hk => hk.2) _) (fun _ hk => hk.2) _) (fun _ hk => hk.1.1.2), by (with_reducible repeat refine sS ?_); exact Kd.qDX (Kd.qCA (Kd.qCA (Kd.qCA (Kd.qCA (Kd.qCA (Kd.qCA (Kd.qCA (Kd.qCA (Kd.qCA (Kd.qEO (Kd.qEO HO329.out BK322.out (by decide)) BK323.out (by decide)) (fun _ hk => hk.1.2) _) (fun _ hk => hk.1.2) _) (fun _ hk => hk.1.2) _) (fun _ hk => hk.2) _) (fun _ hk => hk.2) _) (fun _ hk => hk.2) _) (fun _ hk => hk.2) _) (fun _ hk => hk.2) _) (fun _ hk => hk.2) _) (fun _ hk => hk.1.1.2), by (with_reducible repeat refine sR ?_); exact Kd.qB3 (Kd.qAW (Kd.qAW (Kd.qAW (Kd.qAW (Kd.qAW (Kd.qAW (Kd.qAW (Kd.qAW (Kd.qAW (Kd.qBW (Kd.qBW HO332.out BK322.out (by decide)) BK323.out (by decide)) (fun _ hk => hk.1.2) _) (fun _ hk => hk.1.2) _) (fun _ hk => hk.1.2) _) (fun _ hk => hk.2) _) (fun _ hk => hk.2) _) (fun _ hk => hk.2) _) (fun _ hk => hk.2) _) (fun _ hk => hk.2) _) (fun _ hk => hk.2) _) (fun _ hk => trivial), zb⟩
mutual
def qAI.l0 : Nat → List (S49) → Int → Int → ByteArray → ByteArray → Option (ByteArray × ByteArray × (List (S79)) × (List (S79)) × (List (S59)) × Int × Bool)
 | 0, _, _, _, _, _ => none
 | k + 1, x10, x11, x12, x334000, x334001 => if x12 < x11 then (if 0 ≤ x12 then (if x12 < (x10.length : Int) then (qAI.l1 k x10 x11 x12 ((qA4 x10 x12).f5) (((qA4 x10 x12).f5).length : Int) 0 x334000 x334001 ((qA4 x10 x12).f0) ((qA4 x10 x12).f1) ((qA4 x10 x12).f2) ((qA4 x10 x12).f3) ((qA4 x10 x12).f4) ((qA4 x10 x12).f5)) else (none)) else (none)) else (some ((⟨#[]⟩ : ByteArray), (⟨#[]⟩ : ByteArray), ([] : List (S79)), ([] : List (S79)), ([] : List (S59)), 0, false))
def qAI.l1 : Nat → List (S49) → Int → Int → List (S55) → Int → Int → ByteArray → ByteArray → ByteArray → Int → Int → List (S98) → List (S73) → List (S55) → Option (ByteArray × ByteArray × (List (S79)) × (List (S79)) × (List (S59)) × Int × Bool)
 | 0, _, _, _, _, _, _, _, _, _, _, _, _, _, _ => none
 | k + 1, x10, x11, x12, x17, x18, x19, x334000, x334001, x337000, x337001, x337002, x337003, x337004, x337005 => if x19 < x18 then (if 0 ≤ x19 then (if x19 < (x17.length : Int) then (if x337000.toList = x334000.toList then (if ((qAY x17 x19).f0).toList = x334001.toList then ((qAX.f k ((qAY x17 x19).f0) ((qAY x17 x19).f1) ((qAY x17 x19).f2) ((qAY x17 x19).f3) ((qAY x17 x19).f4) ((qAY x17 x19).f5)).bind fun bt339 => (some (bt339.1, bt339.2.1, bt339.2.2.1, bt339.2.2.2.1, bt339.2.2.2.2.1, bt339.2.2.2.2.2, true))) else (qAI.l1 k x10 x11 x12 x17 x18 (wrap64 (x19 + 1)) x334000 x334001 x337000 x337001 x337002 x337003 x337004 x337005)) else (qAI.l1 k x10 x11 x12 x17 x18 (wrap64 (x19 + 1)) x334000 x334001 x337000 x337001 x337002 x337003 x337004 x337005)) else (none)) else (none)) else (qAI.l0 k x10 x11 (wrap64 (x12 + 1)) x334000 x334001)
end
def qAI.f (k : Nat) (l0 : List (S49)) (a1_0 : ByteArray) (a1_1 : ByteArray) : Option (ByteArray × ByteArray × (List (S79)) × (List (S79)) × (List (S59)) × Int × Bool) := qAI.l0 k l0 (l0.length : Int) 0 a1_0 a1_1
theorem qAI.qBT : ∀ k, (∀ y0 y1 y2 y3 y4, LeO (qAI.l0 k y0 y1 y2 y3 y4) (qAI.l0 (k + 1) y0 y1 y2 y3 y4)) ∧ (∀ y0 y1 y2 y3 y4 y5 y6 y7 y8 y9 y10 y11 y12 y13, LeO (qAI.l1 k y0 y1 y2 y3 y4 y5 y6 y7 y8 y9 y10 y11 y12 y13) (qAI.l1 (k + 1) y0 y1 y2 y3 y4 y5 y6 y7 y8 y9 y10 y11 y12 y13))
 | 0 => ⟨fun _ _ _ _ _ r h => by simp [qAI.l0] at h, fun _ _ _ _ _ _ _ _ _ _ _ _ _ _ r h => by simp [qAI.l1] at h⟩
 | k + 1 => by
  obtain ⟨ih0, ih1⟩ := qAI.qBT k
  refine ⟨?_, ?_⟩
  ·intro y0 y1 y2 y3 y4
   unfold qAI.l0
   have im0 := @qAX.mono
   exact zm
  ·intro y0 y1 y2 y3 y4 y5 y6 y7 y8 y9 y10 y11 y12 y13
   unfold qAI.l1
   have im0 := @qAX.mono
   exact zm
theorem qAI.mono : ∀ a0 a1 a2 k, LeO (qAI.f k a0 a1 a2) (qAI.f (k + 1) a0 a1 a2) := by
 intro a0 a1 a2 k
 obtain ⟨ih0, ih1⟩ := qAI.qBT k
 unfold qAI.f
 have im0 := @qAX.mono
 exact zm
set_option maxHeartbeats 8000000 in
set_option maxRecDepth 100000 in
theorem qAI.calls (k : Nat) (A0 : Option Addr) (c0 : Nat) (l0 : List (S49)) (a1_0 : ByteArray) (a1_1 : ByteArray) (r1 : ByteArray) (r2 : ByteArray) (r3 : List (S79)) (r4 : List (S79)) (r5 : List (S59)) (r6 : Int) (r7 : Bool) (w : World) (hr0 : Kd.C k49 w A0 l0.length l0) (hc0 : l0.length ≤ c0) (h : qAI.f k l0 a1_0 a1_1 = some (r1, r2, r3, r4, r5, r6, r7)) :
  Calls Tryz.prog 48 #[.slice A0 l0.length c0, .agg #[.string a1_0, .string a1_1]] w fun e w' => ∃ v2_ v3_ v4_ : Value, e = .returned (.tuple #[.agg #[.string r1, .string r2, v2_, v3_, v4_, .int .i64 r6], .bool r7]) ∧ Kd.S k79 79 w' w.heap.size (fun k_ => some k_ ≠ (v3_ : Value).ownBlock) v2_ r3 ∧ Kd.S k79 79 w' w.heap.size (fun k_ => some k_ ≠ (v2_ : Value).ownBlock) v3_ r4 ∧ Kd.R k59 59 w' w.heap.size (fun _ => True) v4_ r5 ∧ Below w.heap.size w w' := by
 have hu59 := Tryz.underlying59
 have hu55 := Tryz.underlying55
 have hu49 := Tryz.underlying49
 have HR0 := zq hr0
 have HC0 := zq hc0
 clear hr0 hc0
 have HB := zq (Below.refl w.heap.size w)
 have H : (qAI.l0 k l0 (l0.length : Int) 0 a1_0 a1_1) = some (r1, r2, r3, r4, r5, r6, r7) := h
 clear h
 have H' := zq H
 clear H
 go_enter Tryz.func48, Tryz.ntmps48
 go_wp2_with (first | ((with_reducible refine qAS (N := 3) rfl ?_); refine qDQ ?hg (N := 3) ?hd (cs := #[.string a1_0, .string a1_1]) (t := 59) ?hr ?_; (case hd => rfl); (case hg => rfl); (case hr => first | (go_simp; done) | (go_simp; rfl)); intro gb333 hg w3 hbox hb; have BK333 := zq (hbox); have GW333 := zg w gb333; replace HB := zq (qA7 zb hb); clear hb hbox hg) | ((with_reducible refine qAS (N := 4) rfl ?_); refine qDQ ?hg (N := 4) ?hd (cs := #[.string (⟨#[]⟩ : ByteArray), .string (⟨#[]⟩ : ByteArray), .slice none 0 0, .slice none 0 0, .slice none 0 0, .int .i64 0]) (t := 55) ?hr ?_; (case hd => rfl); (case hg => rfl); (case hr => first | (go_simp; done) | (go_simp; rfl)); intro gb334 hg w4 hbox hb; have BK334 := zq (hbox); have GW334 := zg w gb334; have NB333_334 := zl BK333 gb334; have NB334_333 := zu BK333 gb334; replace BK333 := zq (qAM (zk BK333) hb); replace HB := zq (qA7 zb hb); clear hb hbox hg))
 go_loopg [12] k (fun kq v12 w' => ∃ (x12_1 : Int) (x335000_1 : ByteArray) (x335001_1 : ByteArray) (x335005_1 : Int), v12 = .int .i64 x12_1 ∧ qA0 (qAI.l0 kq l0 (l0.length : Int) x12_1 a1_0 a1_1 = some (r1, r2, r3, r4, r5, r6, r7)) ∧ qA0 (kq ≤ k) ∧ qA0 (w'.heap[gb333]? = some (.cells #[.string a1_0, .string a1_1] 59 (0, 0))) ∧ qA0 (w'.heap[gb334]? = some (.cells #[.string x335000_1, .string x335001_1, (.slice none 0 0), (.slice none 0 0), (.slice none 0 0), .int .i64 x335005_1] 55 (0, 0))) ∧ qA0 (Below w.heap.size w w'))
 case atStart => exact ⟨(0), ((⟨#[]⟩ : ByteArray)), ((⟨#[]⟩ : ByteArray)), (0), zs, H', ⟨Nat.le_refl _⟩, ⟨zk BK333⟩, ⟨zk BK334⟩, ⟨zb⟩⟩
 clear H'
 obtain ⟨x12_1, x335000_1, x335001_1, x335005_1, rfl, HA, HK1, BK333, BK334, HB⟩ := hrel
 obtain _ | k1 := gk
 ·exact absurd HA.out (by simp [qAI.l0])
 have H := HA.out
 clear HA
 simp only [qAI.l0] at H
 obtain ⟨-, c5b0, H⟩ | ⟨-, c5b0, H⟩ := y3 H
 rotate_left
 ·simp only [Option.some.injEq, Prod.mk.injEq] at H
  obtain ⟨rfl, rfl, rfl, rfl, rfl, rfl, rfl⟩ := H
  have hnb53 := NB334_333.out
  have hnc53 := NB333_334.out
  have hcz54 := bc6 BK334.out
  go_wp2
  refine bodyPost_ret (qF2 rfl _ _ gb334 55 #[.string (⟨#[]⟩ : ByteArray), .string (⟨#[]⟩ : ByteArray), .slice none 0 0, .slice none 0 0, .slice none 0 0, .int .i64 0] (0, 0) _ rfl (by (with_reducible repeat refine st ?_); refine qC2 (cs := #[.string (⟨#[]⟩ : ByteArray), .string (⟨#[]⟩ : ByteArray), .slice none 0 0, .slice none 0 0, .slice none 0 0, .int .i64 x335005_1]) ?_ 5 _ rfl; (with_reducible repeat refine st ?_); refine qC2 (cs := #[.string (⟨#[]⟩ : ByteArray), .string (⟨#[]⟩ : ByteArray), .slice none 0 0, .slice none 0 0, .slice none 0 0, .int .i64 x335005_1]) ?_ 4 _ rfl; (with_reducible repeat refine st ?_); refine qC2 (cs := #[.string (⟨#[]⟩ : ByteArray), .string (⟨#[]⟩ : ByteArray), .slice none 0 0, .slice none 0 0, .slice none 0 0, .int .i64 x335005_1]) ?_ 3 _ rfl; (with_reducible repeat refine st ?_); refine qC2 (cs := #[.string (⟨#[]⟩ : ByteArray), .string (⟨#[]⟩ : ByteArray), .slice none 0 0, .slice none 0 0, .slice none 0 0, .int .i64 x335005_1]) ?_ 2 _ rfl; (with_reducible repeat refine st ?_); refine qC2 (cs := #[.string (⟨#[]⟩ : ByteArray), .string x335001_1, .slice none 0 0, .slice none 0 0, .slice none 0 0, .int .i64 x335005_1]) ?_ 1 _ rfl; refine zp_ (cs := #[.string x335000_1, .string x335001_1, .slice none 0 0, .slice none 0 0, .slice none 0 0, .int .i64 x335005_1]) ?_ 0; (with_reducible repeat refine st ?_); exact BK334.out) Tryz.underlying55 rfl (by kernel_rfl)) rfl ?_
  exact ⟨_, _, _, zf, by first | exact Kd.S_nil _ _ _ _ _ | exact Kd.N_nil _ _ _ _ _ | exact Kd.V_nil _ _ _ _ _ | exact Kd.Q_nil _ _ _ _ _ | exact Kd.R_nil _ _ _ _ _, by first | exact Kd.S_nil _ _ _ _ _ | exact Kd.N_nil _ _ _ _ _ | exact Kd.V_nil _ _ _ _ _ | exact Kd.Q_nil _ _ _ _ _ | exact Kd.R_nil _ _ _ _ _, by first | exact Kd.R_nil _ _ _ _ _ | exact Kd.N_nil _ _ _ _ _ | exact Kd.V_nil _ _ _ _ _ | exact Kd.Q_nil _ _ _ _ _ | exact Kd.S_nil _ _ _ _ _, zb⟩
 obtain ⟨-, c6b0, H⟩ | ⟨c6, -, H⟩ := y3 H
 rotate_left
 ·exact absurd H (by simp)
 obtain ⟨-, c7b0, H⟩ | ⟨c7, -, H⟩ := y3 H
 rotate_left
 ·exact absurd H (by simp)
 have H' := zq H
 clear H
 obtain ⟨p335, q335, ad335, A335_3, c335_3, A335_4, c335_4, A335_5, c335_5, e335, hx335_0, hx335_1, hx335_2, hx335_3, hx335_4, hx335_5, hl335_3, hi335_3, hl335_4, hi335_4, hl335_5, hi335_5⟩ := yp (qEY HR0.out x12_1)
 cases e335
 (try replace hx335_0 := zh hx335_0)
 replace hx335_1 := zh hx335_1
 replace hx335_2 := zh hx335_2
 replace hx335_3 := zh hx335_3
 replace hx335_4 := zh hx335_4
 replace hx335_5 := zh hx335_5
 have HR335_3 := zq hi335_3
 have HC335_3 := zq hl335_3
 clear hi335_3 hl335_3
 have HR335_4 := zq hi335_4
 have HC335_4 := zq hl335_4
 clear hi335_4 hl335_4
 have HR335_5 := zq hi335_5
 have HC335_5 := zq hl335_5
 clear hi335_5 hl335_5
 go_wp2_with (((with_reducible refine qAS (N := 7) rfl ?_); refine qDQ ?hg (N := 7) ?hd (cs := #[.string (⟨#[]⟩ : ByteArray), .int .i64 0, .int .i64 0, .slice none 0 0, .slice none 0 0, .slice none 0 0]) (t := 49) ?hr ?_; (case hd => rfl); (case hg => rfl); (case hr => first | (go_simp; done) | (go_simp; rfl)); intro gb336 hg w8 hbox hb; have BK336 := zq (hbox); have GW336 := zg w gb336; have NB333_336 := zl BK333 gb336; have NB336_333 := zu BK333 gb336; have NB334_336 := zl BK334 gb336; have NB336_334 := zu BK334 gb336; replace BK333 := zq (qAM (zk BK333) hb); replace BK334 := zq (qAM (zk BK334) hb); replace HB := zq (qA7 zb hb); clear hb hbox hg; have hnb9 := NB336_333.out; have hnc9 := NB333_336.out; have hnb10 := NB336_334.out; have hnc10 := NB334_336.out; have hcz11 := bc6 BK336.out))
 go_loopg [19] k1 (fun kq v19 w' => ∃ (x19_2 : Int) (x335000_2 : ByteArray) (x335001_2 : ByteArray) (x335005_2 : Int), v19 = .int .i64 x19_2 ∧ qA0 (qAI.l1 kq l0 (l0.length : Int) x12_1 ((qA4 l0 x12_1).f5) (((qA4 l0 x12_1).f5).length : Int) x19_2 a1_0 a1_1 ((qA4 l0 x12_1).f0) ((qA4 l0 x12_1).f1) ((qA4 l0 x12_1).f2) ((qA4 l0 x12_1).f3) ((qA4 l0 x12_1).f4) ((qA4 l0 x12_1).f5) = some (r1, r2, r3, r4, r5, r6, r7)) ∧ qA0 (kq ≤ k1) ∧ qA0 (w'.heap[gb333]? = some (.cells #[.string a1_0, .string a1_1] 59 (0, 0))) ∧ qA0 (w'.heap[gb334]? = some (.cells #[.string x335000_2, .string x335001_2, (.slice none 0 0), (.slice none 0 0), (.slice none 0 0), .int .i64 x335005_2] 55 (0, 0))) ∧ qA0 (w'.heap[gb336]? = some (.cells #[.string ((qA4 l0 x12_1).f0), .int .i64 ((qA4 l0 x12_1).f1), .int .i64 ((qA4 l0 x12_1).f2), (.slice A335_3 ((qA4 l0 x12_1).f3).length c335_3), (.slice A335_4 ((qA4 l0 x12_1).f4).length c335_4), (.slice A335_5 ((qA4 l0 x12_1).f5).length c335_5)] 49 (0, 0))) ∧ qA0 (Below w.heap.size w w'))
 case atStart => exact ⟨(0), (x335000_1), (x335001_1), (x335005_1), zs, H', ⟨Nat.le_refl _⟩, ⟨by refine zf_ ?_ NB333_336; refine zf_ ?_ NB333_336; refine zf_ ?_ NB333_336; refine zf_ ?_ NB333_336; refine zf_ ?_ NB333_336; refine zf_ ?_ NB333_336; (with_reducible repeat refine st ?_); exact BK333.out⟩, ⟨by refine zf_ ?_ NB334_336; refine zf_ ?_ NB334_336; refine zf_ ?_ NB334_336; refine zf_ ?_ NB334_336; refine zf_ ?_ NB334_336; refine zf_ ?_ NB334_336; (with_reducible repeat refine st ?_); exact BK334.out⟩, ⟨by refine zp_ (cs := #[.string ((qA4 l0 x12_1).f0), .int .i64 ((qA4 l0 x12_1).f1), .int .i64 ((qA4 l0 x12_1).f2), .slice A335_3 ((qA4 l0 x12_1).f3).length c335_3, .slice A335_4 ((qA4 l0 x12_1).f4).length c335_4, .slice none 0 0]) ?_ 5; refine zp_ (cs := #[.string ((qA4 l0 x12_1).f0), .int .i64 ((qA4 l0 x12_1).f1), .int .i64 ((qA4 l0 x12_1).f2), .slice A335_3 ((qA4 l0 x12_1).f3).length c335_3, .slice none 0 0, .slice none 0 0]) ?_ 4; refine zp_ (cs := #[.string ((qA4 l0 x12_1).f0), .int .i64 ((qA4 l0 x12_1).f1), .int .i64 ((qA4 l0 x12_1).f2), .slice none 0 0, .slice none 0 0, .slice none 0 0]) ?_ 3; refine zp_ (cs := #[.string ((qA4 l0 x12_1).f0), .int .i64 ((qA4 l0 x12_1).f1), .int .i64 0, .slice none 0 0, .slice none 0 0, .slice none 0 0]) ?_ 2; refine zp_ (cs := #[.string ((qA4 l0 x12_1).f0), .int .i64 0, .int .i64 0, .slice none 0 0, .slice none 0 0, .slice none 0 0]) ?_ 1; (with_reducible repeat refine st ?_); refine qC2 (cs := #[.string (⟨#[]⟩ : ByteArray), .int .i64 0, .int .i64 0, .slice none 0 0, .slice none 0 0, .slice none 0 0]) ?_ 0 _ rfl; (with_reducible repeat refine st ?_); exact BK336.out⟩, ⟨zb⟩⟩
 clear H' c5b0 c6b0 c7b0 hcz11 hx335_0 hx335_1 hx335_2 hx335_3 hx335_4 hx335_5 p335 q335
 obtain ⟨x19_2, x335000_2, x335001_2, x335005_2, rfl, HA, HK2, BK333, BK334, BK336, HB⟩ := hrel
 obtain _ | k2 := gk
 ·exact absurd HA.out (by simp [qAI.l1])
 have H := HA.out
 clear HA
 simp only [qAI.l1] at H
 obtain ⟨-, c12b0, H⟩ | ⟨-, c12b0, H⟩ := y3 H
 rotate_left
 ·have H' := zq H
  clear H
  go_wp2
  go_roundg k2
  case measure => have := HK1.out; have := HK2.out; omega
  case rel => exact ⟨(wrap64 (x12_1 + 1)), (x335000_2), (x335001_2), (x335005_2), zs, H', ⟨by have := HK1.out; have := HK2.out; omega⟩, ⟨zk BK333⟩, ⟨zk BK334⟩, ⟨zb⟩⟩
 obtain ⟨-, c13b0, H⟩ | ⟨c13, -, H⟩ := y3 H
 rotate_left
 ·exact absurd H (by simp)
 obtain ⟨-, c14b0, H⟩ | ⟨c14, -, H⟩ := y3 H
 rotate_left
 ·exact absurd H (by simp)
 obtain ⟨-, c15b0, c15b1, H⟩ | ⟨c15, c15b0, c15b1, H⟩ := y4 H
 rotate_left
 ·have H' := zq H
  clear H
  obtain ⟨p337, q337, ad337, A337_2, c337_2, A337_3, c337_3, A337_4, c337_4, e337, hx337_0, hx337_1, hx337_2, hx337_3, hx337_4, hx337_5, hl337_2, hi337_2, hl337_3, hi337_3, hl337_4, hi337_4⟩ := yp (at_T55 HR335_5.out x19_2)
  cases e337
  (try replace hx337_0 := zh hx337_0)
  replace hx337_1 := zh hx337_1
  replace hx337_2 := zh hx337_2
  replace hx337_3 := zh hx337_3
  replace hx337_4 := zh hx337_4
  replace hx337_5 := zh hx337_5
  have HR337_2 := zq hi337_2
  have HC337_2 := zq hl337_2
  clear hi337_2 hl337_2
  have HR337_3 := zq hi337_3
  have HC337_3 := zq hl337_3
  clear hi337_3 hl337_3
  have HR337_4 := zq hi337_4
  have HC337_4 := zq hl337_4
  clear hi337_4 hl337_4
  go_wp2_with (((with_reducible refine qAS (N := 9) rfl ?_); refine qDQ ?hg (N := 9) ?hd (cs := #[.string (⟨#[]⟩ : ByteArray), .string (⟨#[]⟩ : ByteArray), .slice none 0 0, .slice none 0 0, .slice none 0 0, .int .i64 0]) (t := 55) ?hr ?_; (case hd => rfl); (case hg => rfl); (case hr => first | (go_simp; done) | (go_simp; rfl)); intro gb338 hg w43 hbox hb; have BK338 := zq (hbox); have GW338 := zg w gb338; have NB333_338 := zl BK333 gb338; have NB338_333 := zu BK333 gb338; have NB334_338 := zl BK334 gb338; have NB338_334 := zu BK334 gb338; have NB336_338 := zl BK336 gb338; have NB338_336 := zu BK336 gb338; replace BK333 := zq (qAM (zk BK333) hb); replace BK334 := zq (qAM (zk BK334) hb); replace BK336 := zq (qAM (zk BK336) hb); replace HB := zq (qA7 zb hb); clear hb hbox hg; have hnb44 := NB338_333.out; have hnc44 := NB333_338.out; have hnb45 := NB338_334.out; have hnc45 := NB334_338.out; have hnb46 := NB338_336.out; have hnc46 := NB336_338.out; have hcz47 := bc6 BK338.out; have hnb48 := NB336_333.out; have hnc48 := NB333_336.out; have hnb49 := NB336_334.out; have hnc49 := NB334_336.out; have hcz50 := bc6 BK336.out; have hnb51 := NB333_334.out; have hnc51 := NB334_333.out; have hcz52 := bc2 BK333.out))
  go_roundg k2
  case measure => have := HK1.out; have := HK2.out; omega
  case rel => exact ⟨(wrap64 (x19_2 + 1)), (x335000_2), (x335001_2), (x335005_2), zs, H', ⟨by have := HK1.out; have := HK2.out; omega⟩, ⟨by refine zf_ ?_ NB333_338; refine zf_ ?_ NB333_338; refine zf_ ?_ NB333_338; refine zf_ ?_ NB333_338; refine zf_ ?_ NB333_338; refine zf_ ?_ NB333_338; (with_reducible repeat refine st ?_); exact BK333.out⟩, ⟨by refine zf_ ?_ NB334_338; refine zf_ ?_ NB334_338; refine zf_ ?_ NB334_338; refine zf_ ?_ NB334_338; refine zf_ ?_ NB334_338; refine zf_ ?_ NB334_338; (with_reducible repeat refine st ?_); exact BK334.out⟩, ⟨by refine zf_ ?_ NB336_338; refine zf_ ?_ NB336_338; refine zf_ ?_ NB336_338; refine zf_ ?_ NB336_338; refine zf_ ?_ NB336_338; refine zf_ ?_ NB336_338; (with_reducible repeat refine st ?_); exact BK336.out⟩, ⟨zb⟩⟩
 obtain ⟨-, c16b0, c16b1, H⟩ | ⟨c16, c16b0, c16b1, H⟩ := y4 H
 rotate_left
 ·have H' := zq H
  clear H
  obtain ⟨p337, q337, ad337, A337_2, c337_2, A337_3, c337_3, A337_4, c337_4, e337, hx337_0, hx337_1, hx337_2, hx337_3, hx337_4, hx337_5, hl337_2, hi337_2, hl337_3, hi337_3, hl337_4, hi337_4⟩ := yp (at_T55 HR335_5.out x19_2)
  cases e337
  (try replace hx337_0 := zh hx337_0)
  replace hx337_1 := zh hx337_1
  replace hx337_2 := zh hx337_2
  replace hx337_3 := zh hx337_3
  replace hx337_4 := zh hx337_4
  replace hx337_5 := zh hx337_5
  have HR337_2 := zq hi337_2
  have HC337_2 := zq hl337_2
  clear hi337_2 hl337_2
  have HR337_3 := zq hi337_3
  have HC337_3 := zq hl337_3
  clear hi337_3 hl337_3
  have HR337_4 := zq hi337_4
  have HC337_4 := zq hl337_4
  clear hi337_4 hl337_4
  go_wp2_with (((with_reducible refine qAS (N := 9) rfl ?_); refine qDQ ?hg (N := 9) ?hd (cs := #[.string (⟨#[]⟩ : ByteArray), .string (⟨#[]⟩ : ByteArray), .slice none 0 0, .slice none 0 0, .slice none 0 0, .int .i64 0]) (t := 55) ?hr ?_; (case hd => rfl); (case hg => rfl); (case hr => first | (go_simp; done) | (go_simp; rfl)); intro gb338 hg w33 hbox hb; have BK338 := zq (hbox); have GW338 := zg w gb338; have NB333_338 := zl BK333 gb338; have NB338_333 := zu BK333 gb338; have NB334_338 := zl BK334 gb338; have NB338_334 := zu BK334 gb338; have NB336_338 := zl BK336 gb338; have NB338_336 := zu BK336 gb338; replace BK333 := zq (qAM (zk BK333) hb); replace BK334 := zq (qAM (zk BK334) hb); replace BK336 := zq (qAM (zk BK336) hb); replace HB := zq (qA7 zb hb); clear hb hbox hg; have hnb34 := NB338_333.out; have hnc34 := NB333_338.out; have hnb35 := NB338_334.out; have hnc35 := NB334_338.out; have hnb36 := NB338_336.out; have hnc36 := NB336_338.out; have hcz37 := bc6 BK338.out; have hnb38 := NB336_333.out; have hnc38 := NB333_336.out; have hnb39 := NB336_334.out; have hnc39 := NB334_336.out; have hcz40 := bc6 BK336.out; have hnb41 := NB333_334.out; have hnc41 := NB334_333.out; have hcz42 := bc2 BK333.out))
  go_roundg k2
  case measure => have := HK1.out; have := HK2.out; omega
  case rel => exact ⟨(wrap64 (x19_2 + 1)), (x335000_2), (x335001_2), (x335005_2), zs, H', ⟨by have := HK1.out; have := HK2.out; omega⟩, ⟨by refine zf_ ?_ NB333_338; refine zf_ ?_ NB333_338; refine zf_ ?_ NB333_338; refine zf_ ?_ NB333_338; refine zf_ ?_ NB333_338; refine zf_ ?_ NB333_338; (with_reducible repeat refine st ?_); exact BK333.out⟩, ⟨by refine zf_ ?_ NB334_338; refine zf_ ?_ NB334_338; refine zf_ ?_ NB334_338; refine zf_ ?_ NB334_338; refine zf_ ?_ NB334_338; refine zf_ ?_ NB334_338; (with_reducible repeat refine st ?_); exact BK334.out⟩, ⟨by refine zf_ ?_ NB336_338; refine zf_ ?_ NB336_338; refine zf_ ?_ NB336_338; refine zf_ ?_ NB336_338; refine zf_ ?_ NB336_338; refine zf_ ?_ NB336_338; (with_reducible repeat refine st ?_); exact BK336.out⟩, ⟨zb⟩⟩
 replace H := Option.bind_eq_some_iff.mp H
 obtain ⟨⟨t339, t340, t341, t344, t347, t350⟩, A170, H⟩ := H
 replace H : (some (t339, t340, t341, t344, t347, t350, true)) = some (r1, r2, r3, r4, r5, r6, r7) := H
 have A17 := zq A170
 clear A170
 simp only [Option.some.injEq, Prod.mk.injEq] at H
 obtain ⟨rfl, rfl, rfl, rfl, rfl, rfl, rfl⟩ := H
 obtain ⟨p337, q337, ad337, A337_2, c337_2, A337_3, c337_3, A337_4, c337_4, e337, hx337_0, hx337_1, hx337_2, hx337_3, hx337_4, hx337_5, hl337_2, hi337_2, hl337_3, hi337_3, hl337_4, hi337_4⟩ := yp (at_T55 HR335_5.out x19_2)
 cases e337
 (try replace hx337_0 := zh hx337_0)
 replace hx337_1 := zh hx337_1
 replace hx337_2 := zh hx337_2
 replace hx337_3 := zh hx337_3
 replace hx337_4 := zh hx337_4
 replace hx337_5 := zh hx337_5
 have HR337_2 := zq hi337_2
 have HC337_2 := zq hl337_2
 clear hi337_2 hl337_2
 have HR337_3 := zq hi337_3
 have HC337_3 := zq hl337_3
 clear hi337_3 hl337_3
 have HR337_4 := zq hi337_4
 have HC337_4 := zq hl337_4
 clear hi337_4 hl337_4
 go_wp2_with (first | ((with_reducible refine qAS (N := 9) rfl ?_); refine qDQ ?hg (N := 9) ?hd (cs := #[.string (⟨#[]⟩ : ByteArray), .string (⟨#[]⟩ : ByteArray), .slice none 0 0, .slice none 0 0, .slice none 0 0, .int .i64 0]) (t := 55) ?hr ?_; (case hd => rfl); (case hg => rfl); (case hr => first | (go_simp; done) | (go_simp; rfl)); intro gb338 hg w18 hbox hb; have BK338 := zq (hbox); have GW338 := zg w gb338; have NB333_338 := zl BK333 gb338; have NB338_333 := zu BK333 gb338; have NB334_338 := zl BK334 gb338; have NB338_334 := zu BK334 gb338; have NB336_338 := zl BK336 gb338; have NB338_336 := zu BK336 gb338; replace BK333 := zq (qAM (zk BK333) hb); replace BK334 := zq (qAM (zk BK334) hb); replace BK336 := zq (qAM (zk BK336) hb); replace HB := zq (qA7 zb hb); clear hb hbox hg; have hnb19 := NB338_333.out; have hnc19 := NB333_338.out; have hnb20 := NB338_334.out; have hnc20 := NB334_338.out; have hnb21 := NB338_336.out; have hnc21 := NB336_338.out; have hcz22 := bc6 BK338.out; have hnb23 := NB336_333.out; have hnc23 := NB333_336.out; have hnb24 := NB336_334.out; have hnc24 := NB334_336.out; have hcz25 := bc6 BK336.out; have hnb26 := NB333_334.out; have hnc26 := NB334_333.out; have hcz27 := bc2 BK333.out) | (refine qBY (some 36) Tryz.func73 #[.agg #[.string ((qAY ((qA4 l0 x12_1).f5) x19_2).f0), .string ((qAY ((qA4 l0 x12_1).f5) x19_2).f1), .slice A337_2 ((qAY ((qA4 l0 x12_1).f5) x19_2).f2).length c337_2, .slice A337_3 ((qAY ((qA4 l0 x12_1).f5) x19_2).f3).length c337_3, .slice A337_4 ((qAY ((qA4 l0 x12_1).f5) x19_2).f4).length c337_4, .int .i64 ((qAY ((qA4 l0 x12_1).f5) x19_2).f5)]] ?_; (with_reducible refine (qAX.calls k2 ((qAY ((qA4 l0 x12_1).f5) x19_2).f0) ((qAY ((qA4 l0 x12_1).f5) x19_2).f1) _ _ ((qAY ((qA4 l0 x12_1).f5) x19_2).f2) _ _ ((qAY ((qA4 l0 x12_1).f5) x19_2).f3) _ _ ((qAY ((qA4 l0 x12_1).f5) x19_2).f4) ((qAY ((qA4 l0 x12_1).f5) x19_2).f5) t339 t340 t341 t344 t347 t350 _ ?side1 ?side2 ?side3 ?side4 ?side5 ?side6 A17.out).mono ?_); (case side1 => exact Kd.qAB HR337_2.out zb); (case side2 => exact HC337_2.out); (case side3 => exact Kd.qAB HR337_3.out zb); (case side4 => exact HC337_3.out); (case side5 => exact Kd.qAB HR337_4.out zb); (case side6 => exact HC337_4.out); rintro e w28 ⟨v342, v345, v348, rfl, ho0, ho1, ho2, hb⟩; refine ⟨_, rfl, ?_⟩; have HO343 := zq (Kd.qFN ho0 (qAH zb)); have HO346 := zq (Kd.qFN ho1 (qAH zb)); have HO349 := zq (Kd.qC3 (Kd.R_newB ho2 (g := gb333) (o := .cells #[.string a1_0, .string a1_1] 59 (0, 0)) (by refine zf_ ?_ NB333_338; refine zf_ ?_ NB333_338; refine zf_ ?_ NB333_338; refine zf_ ?_ NB333_338; refine zf_ ?_ NB333_338; refine zf_ ?_ NB333_338; (with_reducible repeat refine st ?_); exact BK333.out)) (qAH zb)); replace BK333 := zq (qAM (g := gb333) (o := .cells #[.string a1_0, .string a1_1] 59 (0, 0)) (by refine zf_ ?_ NB333_338; refine zf_ ?_ NB333_338; refine zf_ ?_ NB333_338; refine zf_ ?_ NB333_338; refine zf_ ?_ NB333_338; refine zf_ ?_ NB333_338; (with_reducible repeat refine st ?_); exact BK333.out) hb); replace BK334 := zq (qAM (g := gb334) (o := .cells #[.string x335000_2, .string x335001_2, .slice none 0 0, .slice none 0 0, .slice none 0 0, .int .i64 x335005_2] 55 (0, 0)) (by refine zf_ ?_ NB334_338; refine zf_ ?_ NB334_338; refine zf_ ?_ NB334_338; refine zf_ ?_ NB334_338; refine zf_ ?_ NB334_338; refine zf_ ?_ NB334_338; (with_reducible repeat refine st ?_); exact BK334.out) hb); replace BK336 := zq (qAM (g := gb336) (o := .cells #[.string ((qA4 l0 x12_1).f0), .int .i64 ((qA4 l0 x12_1).f1), .int .i64 ((qA4 l0 x12_1).f2), .slice A335_3 ((qA4 l0 x12_1).f3).length c335_3, .slice A335_4 ((qA4 l0 x12_1).f4).length c335_4, .slice (some ad337) ((qA4 l0 x12_1).f5).length c335_5] 49 (0, 0)) (by refine zf_ ?_ NB336_338; refine zf_ ?_ NB336_338; refine zf_ ?_ NB336_338; refine zf_ ?_ NB336_338; refine zf_ ?_ NB336_338; refine zf_ ?_ NB336_338; (with_reducible repeat refine st ?_); exact BK336.out) hb); replace BK338 := zq (qAM (g := gb338) (o := .cells #[.string ((qAY ((qA4 l0 x12_1).f5) x19_2).f0), .string ((qAY ((qA4 l0 x12_1).f5) x19_2).f1), .slice A337_2 ((qAY ((qA4 l0 x12_1).f5) x19_2).f2).length c337_2, .slice A337_3 ((qAY ((qA4 l0 x12_1).f5) x19_2).f3).length c337_3, .slice A337_4 ((qAY ((qA4 l0 x12_1).f5) x19_2).f4).length c337_4, .int .i64 ((qAY ((qA4 l0 x12_1).f5) x19_2).f5)] 55 (0, 0)) (by refine zp_ (cs := #[.string ((qAY ((qA4 l0 x12_1).f5) x19_2).f0), .string ((qAY ((qA4 l0 x12_1).f5) x19_2).f1), .slice A337_2 ((qAY ((qA4 l0 x12_1).f5) x19_2).f2).length c337_2, .slice A337_3 ((qAY ((qA4 l0 x12_1).f5) x19_2).f3).length c337_3, .slice A337_4 ((qAY ((qA4 l0 x12_1).f5) x19_2).f4).length c337_4, .int .i64 0]) ?_ 5; refine zp_ (cs := #[.string ((qAY ((qA4 l0 x12_1).f5) x19_2).f0), .string ((qAY ((qA4 l0 x12_1).f5) x19_2).f1), .slice A337_2 ((qAY ((qA4 l0 x12_1).f5) x19_2).f2).length c337_2, .slice A337_3 ((qAY ((qA4 l0 x12_1).f5) x19_2).f3).length c337_3, .slice none 0 0, .int .i64 0]) ?_ 4; refine zp_ (cs := #[.string ((qAY ((qA4 l0 x12_1).f5) x19_2).f0), .string ((qAY ((qA4 l0 x12_1).f5) x19_2).f1), .slice A337_2 ((qAY ((qA4 l0 x12_1).f5) x19_2).f2).length c337_2, .slice none 0 0, .slice none 0 0, .int .i64 0]) ?_ 3; refine zp_ (cs := #[.string ((qAY ((qA4 l0 x12_1).f5) x19_2).f0), .string ((qAY ((qA4 l0 x12_1).f5) x19_2).f1), .slice none 0 0, .slice none 0 0, .slice none 0 0, .int .i64 0]) ?_ 2; (with_reducible repeat refine st ?_); refine qC2 (cs := #[.string ((qAY ((qA4 l0 x12_1).f5) x19_2).f0), .string (⟨#[]⟩ : ByteArray), .slice none 0 0, .slice none 0 0, .slice none 0 0, .int .i64 0]) ?_ 1 _ rfl; (with_reducible repeat refine st ?_); refine qC2 (cs := #[.string (⟨#[]⟩ : ByteArray), .string (⟨#[]⟩ : ByteArray), .slice none 0 0, .slice none 0 0, .slice none 0 0, .int .i64 0]) ?_ 0 _ rfl; (with_reducible repeat refine st ?_); exact BK338.out) hb); replace HB := zq (qA7 zb hb); (try clear hb); (try clear hb2); (try clear hk); (try clear hi); (try clear ho0); (try clear ho1); (try clear ho2); have hcz29 := bc6 BK334.out; obtain ⟨Ao30, co30, eo30⟩ := Kd.qFM HO343.out; subst eo30; obtain ⟨Ao31, co31, eo31⟩ := Kd.qFM HO346.out; subst eo31; obtain ⟨Ao32, co32, eo32⟩ := Kd.qBX HO349.out; subst eo32))
 refine bodyPost_ret (qF2 rfl _ _ gb334 55 #[.string t339, .string t340, .slice Ao30 t341.length co30, .slice Ao31 t344.length co31, .slice Ao32 t347.length co32, .int .i64 t350] (0, 0) _ rfl (by refine zp_ (cs := #[.string t339, .string t340, .slice Ao30 t341.length co30, .slice Ao31 t344.length co31, .slice Ao32 t347.length co32, .int .i64 x335005_2]) ?_ 5; refine zp_ (cs := #[.string t339, .string t340, .slice Ao30 t341.length co30, .slice Ao31 t344.length co31, .slice none 0 0, .int .i64 x335005_2]) ?_ 4; refine zp_ (cs := #[.string t339, .string t340, .slice Ao30 t341.length co30, .slice none 0 0, .slice none 0 0, .int .i64 x335005_2]) ?_ 3; refine zp_ (cs := #[.string t339, .string t340, .slice none 0 0, .slice none 0 0, .slice none 0 0, .int .i64 x335005_2]) ?_ 2; refine zp_ (cs := #[.string t339, .string x335001_2, .slice none 0 0, .slice none 0 0, .slice none 0 0, .int .i64 x335005_2]) ?_ 1; refine zp_ (cs := #[.string x335000_2, .string x335001_2, .slice none 0 0, .slice none 0 0, .slice none 0 0, .int .i64 x335005_2]) ?_ 0; (with_reducible repeat refine st ?_); exact BK334.out) Tryz.underlying55 rfl (by kernel_rfl)) rfl ?_
 exact ⟨_, _, _, zf, by (with_reducible repeat refine sS ?_); exact Kd.qDX (Kd.qCA (Kd.qCA (Kd.qCA (Kd.qCA (Kd.qCA (Kd.qCA (Kd.qEO HO343.out BK334.out (by decide)) (fun _ hk => hk.2) _) (fun _ hk => hk.2) _) (fun _ hk => hk.2) _) (fun _ hk => hk.2) _) (fun _ hk => hk.2) _) (fun _ hk => hk.2) _) (fun _ hk => hk.1), by (with_reducible repeat refine sS ?_); exact Kd.qDX (Kd.qCA (Kd.qCA (Kd.qCA (Kd.qCA (Kd.qCA (Kd.qCA (Kd.qEO HO346.out BK334.out (by decide)) (fun _ hk => hk.2) _) (fun _ hk => hk.2) _) (fun _ hk => hk.2) _) (fun _ hk => hk.2) _) (fun _ hk => hk.2) _) (fun _ hk => hk.2) _) (fun _ hk => hk.1), by (with_reducible repeat refine sR ?_); exact Kd.qB3 (Kd.qAW (Kd.qAW (Kd.qAW (Kd.qAW (Kd.qAW (Kd.qAW (Kd.qBW HO349.out BK334.out (by decide)) (fun _ hk => hk.2) _) (fun _ hk => hk.2) _) (fun _ hk => hk.2) _) (fun _ hk => hk.2) _) (fun _ hk => hk.2) _) (fun _ hk => hk.2) _) (fun _ hk => trivial), zb⟩
def qBL.l0 : Nat → List (S59) → Int → Int → ByteArray → ByteArray → Option (Int)
 | 0, _, _, _, _, _ => none
 | k + 1, x0, x7, x8, x352000, x352001 => if x8 < x7 then (if 0 ≤ x8 then (if x8 < (x0.length : Int) then (if (x352000.toList == (((qBB x0 x8).f0).toList) && (x352001.toList == (((qBB x0 x8).f1).toList))) = true then (some x8) else (qBL.l0 k x0 x7 (wrap64 (x8 + 1)) x352000 x352001)) else (none)) else (none)) else (some (-1))
def qBL.f (k : Nat) (l0 : List (S59)) (a1_0 : ByteArray) (a1_1 : ByteArray) : Option (Int) := qBL.l0 k l0 (l0.length : Int) 0 a1_0 a1_1
theorem qBL.qBT : ∀ k, (∀ y0 y1 y2 y3 y4, LeO (qBL.l0 k y0 y1 y2 y3 y4) (qBL.l0 (k + 1) y0 y1 y2 y3 y4))
 | 0 => fun _ _ _ _ _ r h => by simp [qBL.l0] at h
 | k + 1 => by
  have ih0 := qBL.qBT k
  ·intro y0 y1 y2 y3 y4
   unfold qBL.l0
   exact zm
theorem qBL.mono : ∀ a0 a1 a2 k, LeO (qBL.f k a0 a1 a2) (qBL.f (k + 1) a0 a1 a2) := by
 intro a0 a1 a2 k
 have ih0 := qBL.qBT k
 unfold qBL.f
 exact zm
set_option maxHeartbeats 8000000 in
set_option maxRecDepth 100000 in
theorem qBL.calls (k : Nat) (A0 : Option Addr) (c0 : Nat) (l0 : List (S59)) (a1_0 : ByteArray) (a1_1 : ByteArray) (r : Int) (w : World) (hr0 : Kd.C k59 w A0 l0.length l0) (hc0 : l0.length ≤ c0) (h : qBL.f k l0 a1_0 a1_1 = some r) :
  Calls Tryz.prog 74 #[.slice A0 l0.length c0, .agg #[.string a1_0, .string a1_1]] w fun e w' => e = .returned (.int .i64 r) ∧ Below w.heap.size w w' := by
 have hu59 := Tryz.underlying59
 have HR0 := zq hr0
 have HC0 := zq hc0
 clear hr0 hc0
 have HB := zq (Below.refl w.heap.size w)
 have H : (qBL.l0 k l0 (l0.length : Int) 0 a1_0 a1_1) = some r := h
 clear h
 have H' := zq H
 clear H
 go_enter Tryz.func74, Tryz.ntmps74
 go_wp2_with (((with_reducible refine qAS (N := 3) rfl ?_); refine qDQ ?hg (N := 3) ?hd (cs := #[.string a1_0, .string a1_1]) (t := 59) ?hr ?_; (case hd => rfl); (case hg => rfl); (case hr => first | (go_simp; done) | (go_simp; rfl)); intro gb351 hg w3 hbox hb; have BK351 := zq (hbox); have GW351 := zg w gb351; replace HB := zq (qA7 zb hb); clear hb hbox hg))
 go_loopg [8] k (fun kq v8 w' => ∃ (x8_1 : Int), v8 = .int .i64 x8_1 ∧ qA0 (qBL.l0 kq l0 (l0.length : Int) x8_1 a1_0 a1_1 = some r) ∧ qA0 (kq ≤ k) ∧ qA0 (w'.heap[gb351]? = some (.cells #[.string a1_0, .string a1_1] 59 (0, 0))) ∧ qA0 (Below w.heap.size w w'))
 case atStart => exact ⟨(0), zs, H', ⟨Nat.le_refl _⟩, ⟨zk BK351⟩, ⟨zb⟩⟩
 clear H'
 obtain ⟨x8_1, rfl, HA, HK1, BK351, HB⟩ := hrel
 obtain _ | k1 := gk
 ·exact absurd HA.out (by simp [qBL.l0])
 have H := HA.out
 clear HA
 simp only [qBL.l0] at H
 obtain ⟨-, c4b0, H⟩ | ⟨-, c4b0, H⟩ := y3 H
 rotate_left
 ·obtain rfl := zy H
  go_wp2
  go_ret
  exact ⟨zf, zb⟩
 obtain ⟨-, c5b0, H⟩ | ⟨c5, -, H⟩ := y3 H
 rotate_left
 ·exact absurd H (by simp)
 obtain ⟨-, c6b0, H⟩ | ⟨c6, -, H⟩ := y3 H
 rotate_left
 ·exact absurd H (by simp)
 obtain ⟨c7, -, H⟩ | ⟨c7, -, H⟩ := y3 H
 ·have c7b0 : (a1_0.toList == (((qBB l0 x8_1).f0).toList) && (a1_1.toList == (((qBB l0 x8_1).f1).toList))) = true := c7
  (try (have c7b1 : decide (a1_0.toList = (((qBB l0 x8_1).f0).toList) && (a1_1.toList == (((qBB l0 x8_1).f1).toList))) = true := by simpa using c7))
  (try (have c7b2 : (a1_0.toList == (((qBB l0 x8_1).f0).toList) && (a1_1.toList == (((qBB l0 x8_1).f1).toList))) = true := by simpa using c7))
  clear c7
  obtain rfl := zy H
  have hcz8 := bc2 BK351.out
  obtain ⟨p352, q352, ad352, e352, hx352_0, hx352_1⟩ := yp (at_T59 HR0.out x8_1)
  cases e352
  (try replace hx352_0 := zh hx352_0)
  replace hx352_1 := zh hx352_1
  go_wp2
  repeat (go_quiet (fail); try go_wp2)
  go_ret
  exact ⟨zf, zb⟩
 have c7b0 : (a1_0.toList == (((qBB l0 x8_1).f0).toList) && (a1_1.toList == (((qBB l0 x8_1).f1).toList))) = false := by simpa using c7
 (try (have c7b1 : decide (a1_0.toList = (((qBB l0 x8_1).f0).toList) && (a1_1.toList == (((qBB l0 x8_1).f1).toList))) = false := by simpa using c7))
 (try (have c7b2 : (a1_0.toList == (((qBB l0 x8_1).f0).toList) && (a1_1.toList == (((qBB l0 x8_1).f1).toList))) = false := by simpa using c7))
 (try (have c7b3 : ¬ (a1_0.toList = (((qBB l0 x8_1).f0).toList) && (a1_1.toList == (((qBB l0 x8_1).f1).toList))) := by simpa using c7))
 clear c7
 have H' := zq H
 clear H
 have hcz9 := bc2 BK351.out
 obtain ⟨p352, q352, ad352, e352, hx352_0, hx352_1⟩ := yp (at_T59 HR0.out x8_1)
 cases e352
 (try replace hx352_0 := zh hx352_0)
 replace hx352_1 := zh hx352_1
 go_wp2
 repeat (go_quiet (fail); try go_wp2)
 go_roundg k1
 case measure => have := HK1.out; omega
 case rel => exact ⟨(wrap64 (x8_1 + 1)), zs, H', ⟨by have := HK1.out; omega⟩, ⟨zk BK351⟩, ⟨zb⟩⟩
def qCU.f (k : Nat) (l0 : List (S59)) (a1_0 : ByteArray) (a1_1 : ByteArray) : Option (Bool) := (qBL.f k l0 a1_0 a1_1).bind fun t354 => (some (decide (t354 ≥ 0)))
theorem qCU.mono : ∀ a0 a1 a2 k, LeO (qCU.f k a0 a1 a2) (qCU.f (k + 1) a0 a1 a2) := by
 intro a0 a1 a2 k
 unfold qCU.f
 have im0 := @qBL.mono
 exact zm
set_option maxHeartbeats 8000000 in
set_option maxRecDepth 100000 in
theorem qCU.calls (k : Nat) (A0 : Option Addr) (c0 : Nat) (l0 : List (S59)) (a1_0 : ByteArray) (a1_1 : ByteArray) (r : Bool) (w : World) (hr0 : Kd.C k59 w A0 l0.length l0) (hc0 : l0.length ≤ c0) (h : qCU.f k l0 a1_0 a1_1 = some r) :
  Calls Tryz.prog 49 #[.slice A0 l0.length c0, .agg #[.string a1_0, .string a1_1]] w fun e w' => e = .returned (.bool r) ∧ Below w.heap.size w w' := by
 have hu59 := Tryz.underlying59
 have HR0 := zq hr0
 have HC0 := zq hc0
 clear hr0 hc0
 have HB := zq (Below.refl w.heap.size w)
 have H : ((qBL.f k l0 a1_0 a1_1).bind fun t354 => (some (decide (t354 ≥ 0)))) = some r := h
 clear h
 replace H := Option.bind_eq_some_iff.mp H
 obtain ⟨t354, A30, H⟩ := H
 have A3 := zq A30
 clear A30
 obtain rfl := zy H
 go_enter Tryz.func49, Tryz.ntmps49
 go_wp2_with (first | ((with_reducible refine qAS (N := 3) rfl ?_); refine qDQ ?hg (N := 3) ?hd (cs := #[.string a1_0, .string a1_1]) (t := 59) ?hr ?_; (case hd => rfl); (case hg => rfl); (case hr => first | (go_simp; done) | (go_simp; rfl)); intro gb353 hg w4 hbox hb; have BK353 := zq (hbox); have GW353 := zg w gb353; replace HB := zq (qA7 zb hb); clear hb hbox hg; have hcz5 := bc2 BK353.out) | (refine qBY (some 7) Tryz.func74 #[.slice A0 l0.length c0, .agg #[.string a1_0, .string a1_1]] ?_; (with_reducible refine (qBL.calls k _ _ l0 a1_0 a1_1 t354 _ ?side1 ?side2 A3.out).mono ?_); (case side1 => repeat (first | exact (Kd.qAB HR0.out HB.out) | refine sC ?_)); (case side2 => exact HC0.out); rintro e w6 ⟨rfl, hb⟩; refine ⟨_, rfl, ?_⟩; replace BK353 := zq (qAM (zk BK353) hb); replace HB := zq (qA7 zb hb); (try clear hb); (try clear hb2); (try clear hk); (try clear hi)))
 go_ret
 exact ⟨zf, zb⟩
attribute [local go_sem high] eqA59
mutual
def qB6.l0 : Nat → List (S49) → List (S59) → Int → Int → ByteArray → ByteArray → ByteArray → ByteArray → List (S79) → List (S79) → List (S59) → Int → Option (Int)
 | 0, _, _, _, _, _, _, _, _, _, _, _, _ => none
 | k + 1, x0, x12, x13, x14, x356000, x356001, x357000, x357001, x357002, x357003, x357004, x357005 => if x14 < x13 then (if 0 ≤ x14 then (if x14 < (x12.length : Int) then ((qAI.f k x0 ((qBB x12 x14).f0) ((qBB x12 x14).f1)).bind fun bt359 => (if bt359.2.2.2.2.2.2 = true then (if ((((qBB x12 x14).f0).toList) == x356000.toList && ((((qBB x12 x14).f1).toList) == x356001.toList)) = true then (qB6.j1 k x0 x14 x12 x13 x14 true x356000 x356001 x357000 x357001 x357002 x357003 x357004 x357005 ((qBB x12 x14).f0) ((qBB x12 x14).f1)) else (qB6.j1 k x0 x14 x12 x13 x14 (bt359.2.1.toList != x357001.toList) x356000 x356001 x357000 x357001 x357002 x357003 x357004 x357005 ((qBB x12 x14).f0) ((qBB x12 x14).f1))) else (some 4))) else (none)) else (none)) else (some 0)
def qB6.j1 : Nat → List (S49) → Int → List (S59) → Int → Int → Bool → ByteArray → ByteArray → ByteArray → ByteArray → List (S79) → List (S79) → List (S59) → Int → ByteArray → ByteArray → Option (Int)
 | 0, _, _, _, _, _, _, _, _, _, _, _, _, _, _, _, _ => none
 | k + 1, x0, x7, x12, x13, x14, x28, x356000, x356001, x357000, x357001, x357002, x357003, x357004, x357005, x359000, x359001 => if x28 = true then (some 19) else (if 0 ≤ x7 then (if x7 ≤ (x357004.length : Int) then ((qCU.f k (x357004.take (x7 : Int).toNat) x359000 x359001).bind fun t377 => (if t377 = true then (some 5) else (qB6.l0 k x0 x12 x13 (wrap64 (x14 + 1)) x356000 x356001 x357000 x357001 x357002 x357003 x357004 x357005))) else (none)) else (none))
end
def qB6.f (k : Nat) (l0 : List (S49)) (a1_0 : ByteArray) (a1_1 : ByteArray) (a2_0 : ByteArray) (a2_1 : ByteArray) (l2_2 : List (S79)) (l2_3 : List (S79)) (l2_4 : List (S59)) (a2_5 : Int) : Option (Int) := qB6.l0 k l0 l2_4 (l2_4.length : Int) 0 a1_0 a1_1 a2_0 a2_1 l2_2 l2_3 l2_4 a2_5
theorem qB6.qBT : ∀ k, (∀ y0 y1 y2 y3 y4 y5 y6 y7 y8 y9 y10 y11, LeO (qB6.l0 k y0 y1 y2 y3 y4 y5 y6 y7 y8 y9 y10 y11) (qB6.l0 (k + 1) y0 y1 y2 y3 y4 y5 y6 y7 y8 y9 y10 y11)) ∧ (∀ y0 y1 y2 y3 y4 y5 y6 y7 y8 y9 y10 y11 y12 y13 y14 y15, LeO (qB6.j1 k y0 y1 y2 y3 y4 y5 y6 y7 y8 y9 y10 y11 y12 y13 y14 y15) (qB6.j1 (k + 1) y0 y1 y2 y3 y4 y5 y6 y7 y8 y9 y10 y11 y12 y13 y14 y15))
 | 0 => ⟨fun _ _ _ _ _ _ _ _ _ _ _ _ r h => by simp [qB6.l0] at h, fun _ _ _ _ _ _ _ _ _ _ _ _ _ _ _ _ r h => by simp [qB6.j1] at h⟩
 | k + 1 => by
  obtain ⟨ih0, ih1⟩ := qB6.qBT k
  refine ⟨?_, ?_⟩
  ·intro y0 y1 y2 y3 y4 y5 y6 y7 y8 y9 y10 y11
   unfold qB6.l0
   have im0 := @qCU.mono
   have im1 := @qAI.mono
   exact zm
  ·intro y0 y1 y2 y3 y4 y5 y6 y7 y8 y9 y10 y11 y12 y13 y14 y15
   unfold qB6.j1
   have im0 := @qCU.mono
   have im1 := @qAI.mono
   exact zm
theorem qB6.mono : ∀ a0 a1 a2 a3 a4 a5 a6 a7 a8 k, LeO (qB6.f k a0 a1 a2 a3 a4 a5 a6 a7 a8) (qB6.f (k + 1) a0 a1 a2 a3 a4 a5 a6 a7 a8) := by
 intro a0 a1 a2 a3 a4 a5 a6 a7 a8 k
 obtain ⟨ih0, ih1⟩ := qB6.qBT k
 unfold qB6.f
 have im0 := @qCU.mono
 have im1 := @qAI.mono
 exact zm
theorem qB6.calls (k : Nat) (A0 : Option Addr) (c0 : Nat) (l0 : List (S49)) (a1_0 : ByteArray) (a1_1 : ByteArray) (a2_0 : ByteArray) (a2_1 : ByteArray) (A2_2 : Option Addr) (c2_2 : Nat) (l2_2 : List (S79)) (A2_3 : Option Addr) (c2_3 : Nat) (l2_3 : List (S79)) (A2_4 : Option Addr) (c2_4 : Nat) (l2_4 : List (S59)) (a2_5 : Int) (r : Int) (w : World) (hr0 : Kd.C k49 w A0 l0.length l0) (hc0 : l0.length ≤ c0) (hr2_2 : Kd.C k79 w A2_2 l2_2.length l2_2) (hc2_2 : l2_2.length ≤ c2_2) (hr2_3 : Kd.C k79 w A2_3 l2_3.length l2_3) (hc2_3 : l2_3.length ≤ c2_3) (hr2_4 : Kd.C k59 w A2_4 l2_4.length l2_4) (hc2_4 : l2_4.length ≤ c2_4) (h : qB6.f k l0 a1_0 a1_1 a2_0 a2_1 l2_2 l2_3 l2_4 a2_5 = some r) :
  Calls Tryz.prog 17 #[.slice A0 l0.length c0, .agg #[.string a1_0, .string a1_1], .agg #[.string a2_0, .string a2_1, .slice A2_2 l2_2.length c2_2, .slice A2_3 l2_3.length c2_3, .slice A2_4 l2_4.length c2_4, .int .i64 a2_5]] w fun e w' => e = .returned (.int .i64 r) ∧ Below w.heap.size w w' := by
 have hu59 := Tryz.underlying59
 have hu55 := Tryz.underlying55
 have HR0 := zq hr0
 have HC0 := zq hc0
 clear hr0 hc0
 have HR2_2 := zq hr2_2
 have HC2_2 := zq hc2_2
 clear hr2_2 hc2_2
 have HR2_3 := zq hr2_3
 have HC2_3 := zq hc2_3
 clear hr2_3 hc2_3
 have HR2_4 := zq hr2_4
 have HC2_4 := zq hc2_4
 clear hr2_4 hc2_4
 have HB := zq (Below.refl w.heap.size w)
 have H := h
 unfold qB6.f at H
 clear h
 have H' := zq H
 clear H
 go_enter Tryz.func17, Tryz.ntmps17
 go_wp2_with (first | (refine boxY 4 #[.string a1_0, .string a1_1] 59 ?_; intro gb355 hg w4 BK355 hb; have GW355 := zg w gb355; replace HB := zB hb; clear hb hg) | (refine boxY 5 #[.string a2_0, .string a2_1, .slice A2_2 l2_2.length c2_2, .slice A2_3 l2_3.length c2_3, .slice A2_4 l2_4.length c2_4, .int .i64 a2_5] 55 ?_; intro gb356 hg w5 BK356 hb; have GW356 := zg w gb356; have NB355_356 := zl BK355 gb356; have NB356_355 := zu BK355 gb356; replace BK355 := zK BK355 hb; replace HB := zB hb; clear hb hg; have hnb6 := NB356_355.out; have hnc6 := NB355_356.out; have hcz7 := bc6 BK356.out))
 go_loopg [14] k (fun kq v14 w' => ∃ (x14_1 : Int), v14 = .int .i64 x14_1 ∧ qA0 (qB6.l0 kq l0 l2_4 (l2_4.length : Int) x14_1 a1_0 a1_1 a2_0 a2_1 l2_2 l2_3 l2_4 a2_5 = some r) ∧ qA0 (kq ≤ k) ∧ qA0 (w'.heap[gb355]? = some (.cells #[.string a1_0, .string a1_1] 59 (0, 0))) ∧ qA0 (w'.heap[gb356]? = some (.cells #[.string a2_0, .string a2_1, (.slice A2_2 l2_2.length c2_2), (.slice A2_3 l2_3.length c2_3), (.slice A2_4 l2_4.length c2_4), .int .i64 a2_5] 55 (0, 0))) ∧ qA0 (Below w.heap.size w w'))
 case atStart => exact ⟨(0), zs, H', ⟨Nat.le_refl _⟩, ⟨zk BK355⟩, ⟨zk BK356⟩, ⟨zb⟩⟩
 clear H' hcz7
 obtain ⟨x14_1, rfl, HA, HK1, BK355, BK356, HB⟩ := hrel
 obtain _ | k1 := gk
 ·exact absurd HA.out (by simp [qB6.l0])
 have H := HA.out
 clear HA
 simp only [qB6.l0] at H
 obtain ⟨-, c8b0, H⟩ | ⟨-, c8b0, H⟩ := y3 H
 rotate_left
 ·obtain rfl := zy H
  go_wp2
  go_ret
  exact ⟨zf, zb⟩
 obtain ⟨-, c9b0, H⟩ := y1 H
 obtain ⟨-, c10b0, H⟩ := y1 H
 replace H := zi H
 obtain ⟨⟨t359, t360, t361, t364, t367, t370, t371⟩, A110, H⟩ := H
 dsimp only at H
 have A11 := zq A110
 clear A110
 by_cases c12 : t371 = true
 rotate_left
 ·replace c12 := Bool.eq_false_iff.mpr c12
  subst c12
  rw [zj] at H
  obtain rfl := zy H
  obtain ⟨p357, q357, ad357, e357, hx357_0, hx357_1⟩ := yp (at_T59 HR2_4.out x14_1)
  cases e357
  (try replace hx357_0 := zh hx357_0)
  replace hx357_1 := zh hx357_1
  go_wp2_with (first | (refine boxY 8 #[.string (⟨#[]⟩ : ByteArray), .string (⟨#[]⟩ : ByteArray)] 59 ?_; intro gb358 hg w56 BK358 hb; have GW358 := zg w gb358; have NB355_358 := zl BK355 gb358; have NB358_355 := zu BK355 gb358; have NB356_358 := zl BK356 gb358; have NB358_356 := zu BK356 gb358; replace BK355 := zK BK355 hb; replace BK356 := zK BK356 hb; replace HB := zB hb; clear hb hg; have hnb57 := NB358_355.out; have hnc57 := NB355_358.out; have hnb58 := NB358_356.out; have hnc58 := NB356_358.out; have hcz59 := bc2 BK358.out) | (refine qBY (some 22) Tryz.func48 #[.slice A0 l0.length c0, .agg #[.string ((qBB l2_4 x14_1).f0), .string ((qBB l2_4 x14_1).f1)]] ?_; (with_reducible refine (qAI.calls k1 _ _ l0 ((qBB l2_4 x14_1).f0) ((qBB l2_4 x14_1).f1) t359 t360 t361 t364 t367 t370 false _ ?side1 ?side2 A11.out).mono ?_); (case side1 => exact Kd.qAB HR0.out zb); (case side2 => exact HC0.out); rintro e w60 ⟨v362, v365, v368, rfl, ho0, ho1, ho2, hb⟩; refine ⟨_, rfl, ?_⟩; have HO363 := zq (Kd.qFN ho0 (qAH zb)); have HO366 := zq (Kd.qFN ho1 (qAH zb)); have HO369 := zq (Kd.qC3 (Kd.R_newB (Kd.R_newB ho2 (g := gb355) (o := .cells #[.string a1_0, .string a1_1] 59 (0, 0)) (by refine zf2 ?_ NB355_358; (with_reducible repeat refine st ?_); exact BK355.out)) (g := gb358) (o := .cells #[.string ((qBB l2_4 x14_1).f0), .string ((qBB l2_4 x14_1).f1)] 59 (0, 0)) (zp2 BK358)) (qAH zb)); replace BK355 := zq (qAM (g := gb355) (o := .cells #[.string a1_0, .string a1_1] 59 (0, 0)) (by refine zf2 ?_ NB355_358; (with_reducible repeat refine st ?_); exact BK355.out) hb); replace BK356 := zq (qAM (g := gb356) (o := .cells #[.string a2_0, .string a2_1, .slice A2_2 l2_2.length c2_2, .slice A2_3 l2_3.length c2_3, .slice (some ad357) l2_4.length c2_4, .int .i64 a2_5] 55 (0, 0)) (by refine zf2 ?_ NB356_358; (with_reducible repeat refine st ?_); exact BK356.out) hb); replace BK358 := zq (qAM (zp2 BK358) hb); replace HB := zB hb; (try clear hb hk); (try clear hb); (try clear ho0); (try clear ho1); (try clear ho2)) | (refine boxY 9 #[.string (⟨#[]⟩ : ByteArray), .string (⟨#[]⟩ : ByteArray), .slice none 0 0, .slice none 0 0, .slice none 0 0, .int .i64 0] 55 ?_; intro gb372 hg w61 BK372 hb; have GW372 := zg w gb372; have NB355_372 := zl BK355 gb372; have NB372_355 := zu BK355 gb372; have NB356_372 := zl BK356 gb372; have NB372_356 := zu BK356 gb372; have NB358_372 := zl BK358 gb372; have NB372_358 := zu BK358 gb372; replace HO363 := zq (Kd.qDY (by (with_reducible repeat refine sS ?_); exact HO363.out) hb); replace HO366 := zq (Kd.qDY (by (with_reducible repeat refine sS ?_); exact HO366.out) hb); replace HO369 := zq (Kd.qBM (by (with_reducible repeat refine sR ?_); exact HO369.out) hb); replace BK355 := zK BK355 hb; replace BK356 := zK BK356 hb; replace BK358 := zK BK358 hb; replace HB := zB hb; clear hb hg; have hnb62 := NB372_355.out; have hnc62 := NB355_372.out; have hnb63 := NB372_356.out; have hnc63 := NB356_372.out; have hnb64 := NB372_358.out; have hnc64 := NB358_372.out; have hcz65 := bc6 BK372.out; obtain ⟨Ao66, co66, eo66⟩ := Kd.qFM HO363.out; subst eo66; obtain ⟨Ao67, co67, eo67⟩ := Kd.qFM HO366.out; subst eo67; obtain ⟨Ao68, co68, eo68⟩ := Kd.qBX HO369.out; subst eo68))
  go_ret
  exact ⟨zf, zb⟩
 subst c12
 rw [if_pos rfl] at H
 have HC13 := zq H
 clear H
 obtain ⟨p357, q357, ad357, e357, hx357_0, hx357_1⟩ := yp (at_T59 HR2_4.out x14_1)
 cases e357
 (try replace hx357_0 := zh hx357_0)
 replace hx357_1 := zh hx357_1
 go_upto_region 7 with (first | (refine boxY 8 #[.string (⟨#[]⟩ : ByteArray), .string (⟨#[]⟩ : ByteArray)] 59 ?_; intro gb358 hg w14 BK358 hb; have GW358 := zg w gb358; have NB355_358 := zl BK355 gb358; have NB358_355 := zu BK355 gb358; have NB356_358 := zl BK356 gb358; have NB358_356 := zu BK356 gb358; replace BK355 := zK BK355 hb; replace BK356 := zK BK356 hb; replace HB := zB hb; clear hb hg; have hnb15 := NB358_355.out; have hnc15 := NB355_358.out; have hnb16 := NB358_356.out; have hnc16 := NB356_358.out; have hcz17 := bc2 BK358.out) | (refine qBY (some 22) Tryz.func48 #[.slice A0 l0.length c0, .agg #[.string ((qBB l2_4 x14_1).f0), .string ((qBB l2_4 x14_1).f1)]] ?_; (with_reducible refine (qAI.calls k1 _ _ l0 ((qBB l2_4 x14_1).f0) ((qBB l2_4 x14_1).f1) t359 t360 t361 t364 t367 t370 true _ ?side1 ?side2 A11.out).mono ?_); (case side1 => exact Kd.qAB HR0.out zb); (case side2 => exact HC0.out); rintro e w18 ⟨v362, v365, v368, rfl, ho0, ho1, ho2, hb⟩; refine ⟨_, rfl, ?_⟩; have HO363 := zq (Kd.qFN ho0 (qAH zb)); have HO366 := zq (Kd.qFN ho1 (qAH zb)); have HO369 := zq (Kd.qC3 (Kd.R_newB (Kd.R_newB ho2 (g := gb355) (o := .cells #[.string a1_0, .string a1_1] 59 (0, 0)) (by refine zf2 ?_ NB355_358; (with_reducible repeat refine st ?_); exact BK355.out)) (g := gb358) (o := .cells #[.string ((qBB l2_4 x14_1).f0), .string ((qBB l2_4 x14_1).f1)] 59 (0, 0)) (zp2 BK358)) (qAH zb)); replace BK355 := zq (qAM (g := gb355) (o := .cells #[.string a1_0, .string a1_1] 59 (0, 0)) (by refine zf2 ?_ NB355_358; (with_reducible repeat refine st ?_); exact BK355.out) hb); replace BK356 := zq (qAM (g := gb356) (o := .cells #[.string a2_0, .string a2_1, .slice A2_2 l2_2.length c2_2, .slice A2_3 l2_3.length c2_3, .slice (some ad357) l2_4.length c2_4, .int .i64 a2_5] 55 (0, 0)) (by refine zf2 ?_ NB356_358; (with_reducible repeat refine st ?_); exact BK356.out) hb); replace BK358 := zq (qAM (zp2 BK358) hb); replace HB := zB hb; (try clear hb hk); (try clear hb); (try clear ho0); (try clear ho1); (try clear ho2)) | (refine boxY 9 #[.string (⟨#[]⟩ : ByteArray), .string (⟨#[]⟩ : ByteArray), .slice none 0 0, .slice none 0 0, .slice none 0 0, .int .i64 0] 55 ?_; intro gb372 hg w19 BK372 hb; have GW372 := zg w gb372; have NB355_372 := zl BK355 gb372; have NB372_355 := zu BK355 gb372; have NB356_372 := zl BK356 gb372; have NB372_356 := zu BK356 gb372; have NB358_372 := zl BK358 gb372; have NB372_358 := zu BK358 gb372; replace HO363 := zq (Kd.qDY (by (with_reducible repeat refine sS ?_); exact HO363.out) hb); replace HO366 := zq (Kd.qDY (by (with_reducible repeat refine sS ?_); exact HO366.out) hb); replace HO369 := zq (Kd.qBM (by (with_reducible repeat refine sR ?_); exact HO369.out) hb); replace BK355 := zK BK355 hb; replace BK356 := zK BK356 hb; replace BK358 := zK BK358 hb; replace HB := zB hb; clear hb hg; have hnb20 := NB372_355.out; have hnc20 := NB355_372.out; have hnb21 := NB372_356.out; have hnc21 := NB356_372.out; have hnb22 := NB372_358.out; have hnc22 := NB358_372.out; have hcz23 := bc6 BK372.out; obtain ⟨Ao24, co24, eo24⟩ := Kd.qFM HO363.out; subst eo24; obtain ⟨Ao25, co25, eo25⟩ := Kd.qFM HO366.out; subst eo25; obtain ⟨Ao26, co26, eo26⟩ := Kd.qBX HO369.out; subst eo26))
 go_cut [28] (fun v28 wc => ∃ (kq : Nat) (x28_12 : Bool), v28 = .bool x28_12 ∧ qA0 (qB6.j1 kq l0 x14_1 l2_4 (l2_4.length : Int) x14_1 x28_12 a1_0 a1_1 a2_0 a2_1 l2_2 l2_3 l2_4 a2_5 ((qBB l2_4 x14_1).f0) ((qBB l2_4 x14_1).f1) = some r) ∧ qA0 (kq ≤ k1) ∧ qA0 (Kd.S k79 79 wc w.heap.size (fun k_ => some k_ ≠ ((.slice Ao25 t364.length co25) : Value).ownBlock) (.slice Ao24 t361.length co24) t361) ∧ qA0 (Kd.S k79 79 wc w.heap.size (fun k_ => some k_ ≠ ((.slice Ao24 t361.length co24) : Value).ownBlock) (.slice Ao25 t364.length co25) t364) ∧ qA0 (Kd.R k59 59 wc w.heap.size (fun k_ => k_ ≠ gb355 ∧ k_ ≠ gb358) (.slice Ao26 t367.length co26) t367) ∧ qA0 (wc.heap[gb355]? = some (.cells #[.string a1_0, .string a1_1] 59 (0, 0))) ∧ qA0 (wc.heap[gb356]? = some (.cells #[.string a2_0, .string a2_1, (.slice A2_2 l2_2.length c2_2), (.slice A2_3 l2_3.length c2_3), (.slice (some ad357) l2_4.length c2_4), .int .i64 a2_5] 55 (0, 0))) ∧ qA0 (wc.heap[gb358]? = some (.cells #[.string ((qBB l2_4 x14_1).f0), .string ((qBB l2_4 x14_1).f1)] 59 (0, 0))) ∧ qA0 (wc.heap[gb372]? = some (.cells #[.string t359, .string t360, (.slice Ao24 t361.length co24), (.slice Ao25 t364.length co25), (.slice Ao26 t367.length co26), .int .i64 t370] 55 (0, 0))) ∧ qA0 (Below w.heap.size w wc))
 case first =>
  have H := HC13.out
  clear HC13
  obtain ⟨c27, -, H⟩ | ⟨c27, -, H⟩ := y3 H
  ·have c27b0 : ((((qBB l2_4 x14_1).f0).toList) == a1_0.toList && ((((qBB l2_4 x14_1).f1).toList) == a1_1.toList)) = true := c27
   (try (have c27b1 : decide ((((qBB l2_4 x14_1).f0).toList) = a1_0.toList && ((((qBB l2_4 x14_1).f1).toList) == a1_1.toList)) = true := by simpa using c27))
   (try (have c27b2 : ((((qBB l2_4 x14_1).f0).toList) == a1_0.toList && ((((qBB l2_4 x14_1).f1).toList) == a1_1.toList)) = true := by simpa using c27))
   clear c27
   (first | rw [c27b0] | (simp only [qCI, qCO]; rw [c27b0]) | skip)
   have H' := zq H
   clear H
   have hnb28 := NB358_355.out
   have hnc28 := NB355_358.out
   have hnb29 := NB358_356.out
   have hnc29 := NB356_358.out
   have hnb30 := NB358_372.out
   have hnc30 := NB372_358.out
   have hcz31 := bc2 BK358.out
   have hnb32 := NB355_356.out
   have hnc32 := NB356_355.out
   have hnb33 := NB355_372.out
   have hnc33 := NB372_355.out
   have hcz34 := bc2 BK355.out
   go_wp2
   go_meet
   case rel => exact ⟨_, (true), zs, H', ⟨by have := HK1.out; first | omega | exact Nat.le_refl _⟩, ⟨by (with_reducible repeat refine sS ?_); exact Kd.qDX (Kd.qCA (Kd.qCA (Kd.qCA (Kd.qCA (Kd.qCA (Kd.qCA (Kd.qEO HO363.out BK372.out (by decide)) (fun _ hk => hk.2) _) (fun _ hk => hk.2) _) (fun _ hk => hk.2) _) (fun _ hk => hk.2) _) (fun _ hk => hk.2) _) (fun _ hk => hk.2) _) (fun _ hk => hk.1)⟩, ⟨by (with_reducible repeat refine sS ?_); exact Kd.qDX (Kd.qCA (Kd.qCA (Kd.qCA (Kd.qCA (Kd.qCA (Kd.qCA (Kd.qEO HO366.out BK372.out (by decide)) (fun _ hk => hk.2) _) (fun _ hk => hk.2) _) (fun _ hk => hk.2) _) (fun _ hk => hk.2) _) (fun _ hk => hk.2) _) (fun _ hk => hk.2) _) (fun _ hk => hk.1)⟩, ⟨by (with_reducible repeat refine sR ?_); exact Kd.qB3 (Kd.qAW (Kd.qAW (Kd.qAW (Kd.qAW (Kd.qAW (Kd.qAW (Kd.qBW HO369.out BK372.out (by decide)) (fun _ hk => hk.2) _) (fun _ hk => hk.2) _) (fun _ hk => hk.2) _) (fun _ hk => hk.2) _) (fun _ hk => hk.2) _) (fun _ hk => hk.2) _) (fun _ hk => ⟨hk.1.1.2, hk.1.2⟩)⟩, ⟨by refine zf6 ?_ NB355_372; (with_reducible repeat refine st ?_); exact BK355.out⟩, ⟨by refine zf6 ?_ NB356_372; (with_reducible repeat refine st ?_); exact BK356.out⟩, ⟨by refine zf6 ?_ NB358_372; (with_reducible repeat refine st ?_); exact BK358.out⟩, ⟨zp6 BK372⟩, ⟨zb⟩⟩
  have c27b0 : ((((qBB l2_4 x14_1).f0).toList) == a1_0.toList && ((((qBB l2_4 x14_1).f1).toList) == a1_1.toList)) = false := by simpa using c27
  (try (have c27b1 : decide ((((qBB l2_4 x14_1).f0).toList) = a1_0.toList && ((((qBB l2_4 x14_1).f1).toList) == a1_1.toList)) = false := by simpa using c27))
  (try (have c27b2 : ((((qBB l2_4 x14_1).f0).toList) == a1_0.toList && ((((qBB l2_4 x14_1).f1).toList) == a1_1.toList)) = false := by simpa using c27))
  (try (have c27b3 : ¬ ((((qBB l2_4 x14_1).f0).toList) = a1_0.toList && ((((qBB l2_4 x14_1).f1).toList) == a1_1.toList)) := by simpa using c27))
  clear c27
  (first | rw [c27b0] | (simp only [qCI, qCO]; rw [c27b0]) | skip)
  have H' := zq H
  clear H
  have hnb35 := NB358_355.out
  have hnc35 := NB355_358.out
  have hnb36 := NB358_356.out
  have hnc36 := NB356_358.out
  have hnb37 := NB358_372.out
  have hnc37 := NB372_358.out
  have hcz38 := bc2 BK358.out
  have hnb39 := NB355_356.out
  have hnc39 := NB356_355.out
  have hnb40 := NB355_372.out
  have hnc40 := NB372_355.out
  have hcz41 := bc2 BK355.out
  have hnb42 := NB372_356.out
  have hnc42 := NB356_372.out
  have hcz43 := bc6 BK372.out
  have hcz44 := bc6 BK356.out
  go_wp2
  go_meet
  case rel => exact ⟨_, ((t360.toList != a2_1.toList)), zs, H', ⟨by have := HK1.out; first | omega | exact Nat.le_refl _⟩, ⟨by (with_reducible repeat refine sS ?_); exact Kd.qDX (Kd.qCA (Kd.qCA (Kd.qCA (Kd.qCA (Kd.qCA (Kd.qCA (Kd.qEO HO363.out BK372.out (by decide)) (fun _ hk => hk.2) _) (fun _ hk => hk.2) _) (fun _ hk => hk.2) _) (fun _ hk => hk.2) _) (fun _ hk => hk.2) _) (fun _ hk => hk.2) _) (fun _ hk => hk.1)⟩, ⟨by (with_reducible repeat refine sS ?_); exact Kd.qDX (Kd.qCA (Kd.qCA (Kd.qCA (Kd.qCA (Kd.qCA (Kd.qCA (Kd.qEO HO366.out BK372.out (by decide)) (fun _ hk => hk.2) _) (fun _ hk => hk.2) _) (fun _ hk => hk.2) _) (fun _ hk => hk.2) _) (fun _ hk => hk.2) _) (fun _ hk => hk.2) _) (fun _ hk => hk.1)⟩, ⟨by (with_reducible repeat refine sR ?_); exact Kd.qB3 (Kd.qAW (Kd.qAW (Kd.qAW (Kd.qAW (Kd.qAW (Kd.qAW (Kd.qBW HO369.out BK372.out (by decide)) (fun _ hk => hk.2) _) (fun _ hk => hk.2) _) (fun _ hk => hk.2) _) (fun _ hk => hk.2) _) (fun _ hk => hk.2) _) (fun _ hk => hk.2) _) (fun _ hk => ⟨hk.1.1.2, hk.1.2⟩)⟩, ⟨by refine zf6 ?_ NB355_372; (with_reducible repeat refine st ?_); exact BK355.out⟩, ⟨by refine zf6 ?_ NB356_372; (with_reducible repeat refine st ?_); exact BK356.out⟩, ⟨by refine zf6 ?_ NB358_372; (with_reducible repeat refine st ?_); exact BK358.out⟩, ⟨zp6 BK372⟩, ⟨zb⟩⟩
 clear HC13 c8b0 c9b0 c10b0 hcz17 hcz23 hx357_0 hx357_1 p357 q357
 obtain ⟨kq, x28_12, rfl, HA, HJ12, HO_373002, HO_373003, HO_373004, BK355, BK356, BK358, BK372, HB⟩ := hcut
 obtain _ | kj12 := kq
 ·exact absurd HA.out (by simp [qB6.j1])
 have H := HA.out
 clear HA
 simp only [qB6.j1] at H
 by_cases c45 : x28_12 = true
 ·subst c45
  rw [if_pos rfl] at H
  obtain rfl := zy H
  go_wp2
  go_ret
  exact ⟨zf, zb⟩
 replace c45 := Bool.eq_false_iff.mpr c45
 subst c45
 rw [zj] at H
 obtain ⟨c46, -, H⟩ := y1 H
 have c46b0 := eq_true c46
 have c46b1 := decide_eq_true c46
 clear c46
 obtain ⟨c47, -, H⟩ := y1 H
 have c47b0 := eq_true c47
 have c47b1 := decide_eq_true c47
 clear c47
 obtain ⟨y373, hy_⟩ : ∃ y_ : List (S59), y_ = (l2_4.take (x14_1 : Int).toNat) := ⟨_, rfl⟩
 replace H : ((qCU.f kj12 y373 ((qBB l2_4 x14_1).f0) ((qBB l2_4 x14_1).f1)).bind fun t377 => (if t377 = true then (some 5) else (qB6.l0 kj12 l0 l2_4 (l2_4.length : Int) (wrap64 (x14_1 + 1)) a1_0 a1_1 a2_0 a2_1 l2_2 l2_3 l2_4 a2_5))) = some r := zr
 have Ny373 := zq hy_
 clear hy_
 replace H := zi H
 obtain ⟨t377, A480, H⟩ := H
 have A48 := zq A480
 clear A480
 by_cases c49 : t377 = true
 ·subst c49
  rw [if_pos rfl] at H
  obtain rfl := zy H
  try go_wp2
  replace HO_373002 := zq (Kd.S_drew HO_373002.out)
  replace HO_373003 := zq (Kd.S_drew HO_373003.out)
  replace HO_373004 := zq (Kd.R_drew HO_373004.out)
  replace BK355 := zq (qB7 BK355.out)
  replace BK356 := zq (qB7 BK356.out)
  replace BK358 := zq (qB7 BK358.out)
  replace BK372 := zq (qB7 BK372.out)
  replace HB := zq (qBP HB.out)
  have q51 : (x14_1 : Int) ≤ ((l2_4.length : Int) : Int) := zd
  obtain ⟨i051, hi051, _, hsz51, _⟩ := info_parts info59
  have hroom51 : l2_4.length ≤ c2_4 := HC2_4.out
  have hC51 : Kd.C k59 _ (some ad357) l2_4.length l2_4 := HR2_4.out
  have hcut51 := cut_to (P := Tryz.prog) 44 59 .i64 Tryz.underlying44 hi051 (some ad357) l2_4.length c2_4 x14_1 (zd) q51 hroom51
  have hr51 := Kd.C_take (m := (x14_1 : Int).toNat) hC51 (by omega)
  have hy51 : y373.length = (x14_1 : Int).toNat := (by rw [Ny373.out, List.length_take]; omega)
  rw [← Ny373.out] at hr51
  rw [← hy51] at hcut51
  have HR376 := zq hr51
  have HC376 := zq (show y373.length ≤ c2_4 from by omega)
  clear hr51 hC51 hroom51 hi051 hsz51
  have KY51 := zq hy51
  clear hy51
  replace q51 := eq_true q51
  refine qF4 (n := 7) (S := fun w' => w'.cell? ⟨gb356, 0, none⟩ = some (.string a2_0) ∧ w'.cell? ⟨gb356, 1, none⟩ = some (.string a2_1) ∧ w'.cell? ⟨gb356, 2, none⟩ = some (.slice A2_2 l2_2.length c2_2) ∧ w'.cell? ⟨gb356, 3, none⟩ = some (.slice A2_3 l2_3.length c2_3) ∧ w'.cell? ⟨gb356, 4, none⟩ = some (.slice (some ad357) l2_4.length c2_4) ∧ w'.cell? ⟨gb356, 5, none⟩ = some (.int .i64 a2_5) ∧ w'.cell? ⟨gb358, 0, none⟩ = some (.string ((qBB l2_4 x14_1).f0)) ∧ w'.cell? ⟨gb358, 1, none⟩ = some (.string ((qBB l2_4 x14_1).f1))) (ds := []) (bs 7 0) (by kernel_rfl) rfl rfl ⟨(qA1 BK356.out 0).trans rfl, (qA1 BK356.out 1).trans rfl, (qA1 BK356.out 2).trans rfl, (qA1 BK356.out 3).trans rfl, (qA1 BK356.out 4).trans rfl, (qA1 BK356.out 5).trans rfl, (qA1 BK358.out 0).trans rfl, (qA1 BK358.out 1).trans rfl⟩ (fun hHeld => ?_)
  generalize wc.drew = w50 at HO_373002 HO_373003 HO_373004 BK355 BK356 BK358 BK372 HB HR376 hHeld ⊢
  refine pure_ (i := 0) (N := some 40) (v := ?_) (a' := ?_) (bs 7 1) rfl rfl (by kernel_rfl) (fun _ _ _ h => h) (Or.inl ⟨by rfl, ?_⟩) ?_ ?_
  rotate_left
  ·intro w'
   go_simp
   with_reducible rfl
  rotate_left
  ·simp only [Act.put, List.setIfInBounds_toArray, List.set_cons_zero, List.set_cons_succ, qCI, qCO]
   rfl
  refine pure_ (i := 2) (N := some 42) (v := ?_) (a' := ?_) (bs 7 5) rfl rfl (by kernel_rfl) (fun _ _ _ h => h) (Or.inl ⟨by rfl, ?_⟩) ?_ ?_
  rotate_left
  ·intro w'
   go_simp
   with_reducible rfl
  rotate_left
  ·simp only [Act.put, List.setIfInBounds_toArray, List.set_cons_zero, List.set_cons_succ, qCI, qCO]
   rfl
  refine take_ (i := 1) (N := some 41) (v := ?_) (a' := ?_) (bs 7 7) rfl rfl (by kernel_rfl) (fun _ _ _ h => h) (Or.inl ⟨by rfl, ?_⟩) hHeld ?_ ?_
  rotate_left
  ·rintro w' ⟨s0, s1, s2, s3, s4, s5, s6, s7⟩
   go_simp
   with_reducible rfl
  rotate_left
  ·simp only [Act.put, List.setIfInBounds_toArray, List.set_cons_zero, List.set_cons_succ, qCI, qCO]
   rfl
  refine pure_ (i := 3) (N := some 43) (v := ?_) (a' := ?_) (bs 7 15) rfl rfl (by kernel_rfl) (fun _ _ _ h => h) (Or.inl ⟨by rfl, ?_⟩) ?_ ?_
  rotate_left
  ·intro w'
   go_simp
   with_reducible rfl
  rotate_left
  ·simp only [Act.put, List.setIfInBounds_toArray, List.set_cons_zero, List.set_cons_succ, qCI, qCO]
   rfl
  refine take_ (i := 4) (N := some 44) (v := ?_) (a' := ?_) (bs 7 31) rfl rfl (by kernel_rfl) (fun _ _ _ h => h) (Or.inl ⟨by rfl, ?_⟩) hHeld ?_ ?_
  rotate_left
  ·rintro w' ⟨s0, s1, s2, s3, s4, s5, s6, s7⟩
   go_simp
   with_reducible rfl
  rotate_left
  ·simp only [Act.put, List.setIfInBounds_toArray, List.set_cons_zero, List.set_cons_succ, qCI, qCO]
   rfl
  refine one_ (i := 5) (N := some 45) (bs 7 63) rfl rfl (by kernel_rfl) (by decide) (fun K hK => ?_)
  refine qFZ Tryz.func49 (by kernel_rfl) rfl #[.slice (some ad357) y373.length c2_4, .agg #[.string ((qBB l2_4 x14_1).f0), .string ((qBB l2_4 x14_1).f1)]] (by rfl) rfl rfl (by (try simp only [List.map_toArray, List.map_cons, List.map_nil]); first | done | rfl | (simp only [List.length_drop, List.length_take]; rfl)) ?_
  with_reducible refine (qCU.calls kj12 _ _ y373 ((qBB l2_4 x14_1).f0) ((qBB l2_4 x14_1).f1) true _ ?side1 ?side2 A48.out).mono ?_
  (case side1 => repeat (first | exact (Kd.qAB HR376.out HB.out) | refine sC ?_))
  (case side2 => exact HC376.out)
  rintro e w52 ⟨rfl, hb⟩
  refine ⟨_, rfl, ?_⟩
  replace HO_373002 := zq (Kd.qDY (by (with_reducible repeat refine sS ?_); exact HO_373002.out) hb)
  replace HO_373003 := zq (Kd.qDY (by (with_reducible repeat refine sS ?_); exact HO_373003.out) hb)
  replace HO_373004 := zq (Kd.qBM (by (with_reducible repeat refine sR ?_); exact HO_373004.out) hb)
  replace BK355 := zK BK355 hb
  replace BK356 := zK BK356 hb
  replace BK358 := zK BK358 hb
  replace BK372 := zK BK372 hb
  replace HB := zB hb
  (try clear hb)
  (try clear hb2)
  (try clear hk)
  (try clear hi)
  refine hK.out _ _ ⟨(qA1 BK356.out 0).trans rfl, (qA1 BK356.out 1).trans rfl, (qA1 BK356.out 2).trans rfl, (qA1 BK356.out 3).trans rfl, (qA1 BK356.out 4).trans rfl, (qA1 BK356.out 5).trans rfl, (qA1 BK358.out 0).trans rfl, (qA1 BK358.out 1).trans rfl⟩ (fun hHeld => ?_)
  clear hK K
  refine qFQ ?_
  refine pure_ (i := 6) (N := some 39) (v := ?_) (a' := ?_) (bs 7 127) rfl rfl (by kernel_rfl) (fun _ _ _ h => h) (Or.inl ⟨by rfl, ?_⟩) ?_ ?_
  rotate_left
  ·intro w'
   go_simp
   with_reducible rfl
  rotate_left
  ·simp only [Act.put, List.setIfInBounds_toArray, List.set_cons_zero, List.set_cons_succ, qCI, qCO]
   rfl
  refine done_ (by kernel_rfl) ?_
  try go_wp2
  go_ret
  exact ⟨zf, zb⟩
 replace c49 := Bool.eq_false_iff.mpr c49
 subst c49
 rw [zj] at H
 have H' := zq H
 clear H
 try go_wp2
 replace HO_373002 := zq (Kd.S_drew HO_373002.out)
 replace HO_373003 := zq (Kd.S_drew HO_373003.out)
 replace HO_373004 := zq (Kd.R_drew HO_373004.out)
 replace BK355 := zq (qB7 BK355.out)
 replace BK356 := zq (qB7 BK356.out)
 replace BK358 := zq (qB7 BK358.out)
 replace BK372 := zq (qB7 BK372.out)
 replace HB := zq (qBP HB.out)
 have q54 : (x14_1 : Int) ≤ ((l2_4.length : Int) : Int) := zd
 obtain ⟨i054, hi054, _, hsz54, _⟩ := info_parts info59
 have hroom54 : l2_4.length ≤ c2_4 := HC2_4.out
 have hC54 : Kd.C k59 _ (some ad357) l2_4.length l2_4 := HR2_4.out
 have hcut54 := cut_to (P := Tryz.prog) 44 59 .i64 Tryz.underlying44 hi054 (some ad357) l2_4.length c2_4 x14_1 (zd) q54 hroom54
 have hr54 := Kd.C_take (m := (x14_1 : Int).toNat) hC54 (by omega)
 have hy54 : y373.length = (x14_1 : Int).toNat := (by rw [Ny373.out, List.length_take]; omega)
 rw [← Ny373.out] at hr54
 rw [← hy54] at hcut54
 have HR376 := zq hr54
 have HC376 := zq (show y373.length ≤ c2_4 from by omega)
 clear hr54 hC54 hroom54 hi054 hsz54
 have KY54 := zq hy54
 clear hy54
 replace q54 := eq_true q54
 refine qF4 (n := 7) (S := fun w' => w'.cell? ⟨gb356, 0, none⟩ = some (.string a2_0) ∧ w'.cell? ⟨gb356, 1, none⟩ = some (.string a2_1) ∧ w'.cell? ⟨gb356, 2, none⟩ = some (.slice A2_2 l2_2.length c2_2) ∧ w'.cell? ⟨gb356, 3, none⟩ = some (.slice A2_3 l2_3.length c2_3) ∧ w'.cell? ⟨gb356, 4, none⟩ = some (.slice (some ad357) l2_4.length c2_4) ∧ w'.cell? ⟨gb356, 5, none⟩ = some (.int .i64 a2_5) ∧ w'.cell? ⟨gb358, 0, none⟩ = some (.string ((qBB l2_4 x14_1).f0)) ∧ w'.cell? ⟨gb358, 1, none⟩ = some (.string ((qBB l2_4 x14_1).f1))) (ds := []) (bs 7 0) (by kernel_rfl) rfl rfl ⟨(qA1 BK356.out 0).trans rfl, (qA1 BK356.out 1).trans rfl, (qA1 BK356.out 2).trans rfl, (qA1 BK356.out 3).trans rfl, (qA1 BK356.out 4).trans rfl, (qA1 BK356.out 5).trans rfl, (qA1 BK358.out 0).trans rfl, (qA1 BK358.out 1).trans rfl⟩ (fun hHeld => ?_)
 generalize wc.drew = w53 at HO_373002 HO_373003 HO_373004 BK355 BK356 BK358 BK372 HB HR376 hHeld ⊢
 refine pure_ (i := 0) (N := some 40) (v := ?_) (a' := ?_) (bs 7 1) rfl rfl (by kernel_rfl) (fun _ _ _ h => h) (Or.inl ⟨by rfl, ?_⟩) ?_ ?_
 rotate_left
 ·intro w'
  go_simp
  with_reducible rfl
 rotate_left
 ·simp only [Act.put, List.setIfInBounds_toArray, List.set_cons_zero, List.set_cons_succ, qCI, qCO]
  rfl
 refine pure_ (i := 2) (N := some 42) (v := ?_) (a' := ?_) (bs 7 5) rfl rfl (by kernel_rfl) (fun _ _ _ h => h) (Or.inl ⟨by rfl, ?_⟩) ?_ ?_
 rotate_left
 ·intro w'
  go_simp
  with_reducible rfl
 rotate_left
 ·simp only [Act.put, List.setIfInBounds_toArray, List.set_cons_zero, List.set_cons_succ, qCI, qCO]
  rfl
 refine take_ (i := 1) (N := some 41) (v := ?_) (a' := ?_) (bs 7 7) rfl rfl (by kernel_rfl) (fun _ _ _ h => h) (Or.inl ⟨by rfl, ?_⟩) hHeld ?_ ?_
 rotate_left
 ·rintro w' ⟨s0, s1, s2, s3, s4, s5, s6, s7⟩
  go_simp
  with_reducible rfl
 rotate_left
 ·simp only [Act.put, List.setIfInBounds_toArray, List.set_cons_zero, List.set_cons_succ, qCI, qCO]
  rfl
 refine pure_ (i := 3) (N := some 43) (v := ?_) (a' := ?_) (bs 7 15) rfl rfl (by kernel_rfl) (fun _ _ _ h => h) (Or.inl ⟨by rfl, ?_⟩) ?_ ?_
 rotate_left
 ·intro w'
  go_simp
  with_reducible rfl
 rotate_left
 ·simp only [Act.put, List.setIfInBounds_toArray, List.set_cons_zero, List.set_cons_succ, qCI, qCO]
  rfl
 refine take_ (i := 4) (N := some 44) (v := ?_) (a' := ?_) (bs 7 31) rfl rfl (by kernel_rfl) (fun _ _ _ h => h) (Or.inl ⟨by rfl, ?_⟩) hHeld ?_ ?_
 rotate_left
 ·rintro w' ⟨s0, s1, s2, s3, s4, s5, s6, s7⟩
  go_simp
  with_reducible rfl
 rotate_left
 ·simp only [Act.put, List.setIfInBounds_toArray, List.set_cons_zero, List.set_cons_succ, qCI, qCO]
  rfl
 refine one_ (i := 5) (N := some 45) (bs 7 63) rfl rfl (by kernel_rfl) (by decide) (fun K hK => ?_)
 refine qFZ Tryz.func49 (by kernel_rfl) rfl #[.slice (some ad357) y373.length c2_4, .agg #[.string ((qBB l2_4 x14_1).f0), .string ((qBB l2_4 x14_1).f1)]] (by rfl) rfl rfl (by (try simp only [List.map_toArray, List.map_cons, List.map_nil]); first | done | rfl | (simp only [List.length_drop, List.length_take]; rfl)) ?_
 with_reducible refine (qCU.calls kj12 _ _ y373 ((qBB l2_4 x14_1).f0) ((qBB l2_4 x14_1).f1) false _ ?side1 ?side2 A48.out).mono ?_
 (case side1 => repeat (first | exact (Kd.qAB HR376.out HB.out) | refine sC ?_))
 (case side2 => exact HC376.out)
 rintro e w55 ⟨rfl, hb⟩
 refine ⟨_, rfl, ?_⟩
 replace HO_373002 := zq (Kd.qDY (by (with_reducible repeat refine sS ?_); exact HO_373002.out) hb)
 replace HO_373003 := zq (Kd.qDY (by (with_reducible repeat refine sS ?_); exact HO_373003.out) hb)
 replace HO_373004 := zq (Kd.qBM (by (with_reducible repeat refine sR ?_); exact HO_373004.out) hb)
 replace BK355 := zK BK355 hb
 replace BK356 := zK BK356 hb
 replace BK358 := zK BK358 hb
 replace BK372 := zK BK372 hb
 replace HB := zB hb
 (try clear hb)
 (try clear hb2)
 (try clear hk)
 (try clear hi)
 refine hK.out _ _ ⟨(qA1 BK356.out 0).trans rfl, (qA1 BK356.out 1).trans rfl, (qA1 BK356.out 2).trans rfl, (qA1 BK356.out 3).trans rfl, (qA1 BK356.out 4).trans rfl, (qA1 BK356.out 5).trans rfl, (qA1 BK358.out 0).trans rfl, (qA1 BK358.out 1).trans rfl⟩ (fun hHeld => ?_)
 clear hK K
 refine qFQ ?_
 refine pure_ (i := 6) (N := some 39) (v := ?_) (a' := ?_) (bs 7 127) rfl rfl (by kernel_rfl) (fun _ _ _ h => h) (Or.inl ⟨by rfl, ?_⟩) ?_ ?_
 rotate_left
 ·intro w'
  go_simp
  with_reducible rfl
 rotate_left
 ·simp only [Act.put, List.setIfInBounds_toArray, List.set_cons_zero, List.set_cons_succ, qCI, qCO]
  rfl
 refine done_ (by kernel_rfl) ?_
 try go_wp2
 go_roundg kj12
 case measure => have := HK1.out; have := HJ12.out; omega
 case rel => exact ⟨(wrap64 (x14_1 + 1)), zs, H', ⟨by have := HK1.out; have := HJ12.out; omega⟩, ⟨zk BK355⟩, ⟨zk BK356⟩, ⟨zb⟩⟩
end
end Go.Proofs.YtfnejdbjekkadaaGreat.PRatePuts
end
