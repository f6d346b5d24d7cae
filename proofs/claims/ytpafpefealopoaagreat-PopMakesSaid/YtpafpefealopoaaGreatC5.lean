/- A part of the proof of PopMakes: texts that were printed, words, walks. No condition. -/
import Derived.Test.YtpafpefealopoaaGreatC1
import Derived.Test.YtpafpefealopoaaGreatC4
set_option linter.unusedVariables false
set_option linter.unusedSimpArgs false
section
namespace Go.Proofs.YtpafpefealopoaaGreat.PPopMakes
noncomputable section
open Go.RowKit Go.Proofs.YtpafpefealopoaaGreatW.PrintWords Go.Proofs.YtpafpefealopoaaGreatW.PrintLast Go.Proofs.YtpafpefealopoaaGreatW.PrintMore
set_option maxHeartbeats 8000000
set_option maxRecDepth 100000
mutual
def qA5.j0 : Nat → List Int → Int → Bool → Int → List Int → Int → Int → ByteArray → ByteArray → Int → Int → Bool → List (S134) → Option (Int × Bool)
 | 0, _, _, _, _, _, _, _, _, _, _, _, _, _ => none
 | k + 1, x1, x17, x29, x198000, x198001, x198002, x198003, x198004, x199000, x199001, x199002, x199003, x199004 => if x29 = true then (if 0 < (x1.length : Int) then ((qAD.f k (rd x1 0) (([1] : List Int))).bind fun t208 => (if t208 = true then (if 1 < (x1.length : Int) then ((qAD.f k (rd x1 1) (([1] : List Int))).bind fun t213 => (some (1, t213))) else (none)) else (some (1, false)))) else (none)) else (if x17 = 9 then (if 0 < (x1.length : Int) then (if 1 < (x1.length : Int) then ((qCQ.f (rd x1 0) (rd x1 1)).bind fun bt216 => (some (1, bt216.2))) else (none)) else (none)) else (if x17 = 7 then (qA5.j1 k x1 x17 (x17 == 7) x198000 x198001 x198002 x198003 x198004 x199000 x199001 x199002 x199003 x199004) else (qA5.j1 k x1 x17 (x17 == 8) x198000 x198001 x198002 x198003 x198004 x199000 x199001 x199002 x199003 x199004)))
def qA5.j1 : Nat → List Int → Int → Bool → Int → List Int → Int → Int → ByteArray → ByteArray → Int → Int → Bool → List (S134) → Option (Int × Bool)
 | 0, _, _, _, _, _, _, _, _, _, _, _, _, _ => none
 | k + 1, x1, x17, x57, x198000, x198001, x198002, x198003, x198004, x199000, x199001, x199002, x199003, x199004 => if x57 = true then (if 0 < (x1.length : Int) then (if 1 < (x1.length : Int) then ((qCQ.f (rd x1 0) (rd x1 1)).bind fun bt220 => (if bt220.2 = true then (some (1, (bt220.1 != 1))) else (some (1, false)))) else (none)) else (none)) else (if x17 = 13 then (qA5.j2 k x1 x17 (x17 == 13) x198000 x198001 x198002 x198003 x198004 x199000 x199001 x199002 x199003 x199004) else (qA5.j2 k x1 x17 (x17 == 14) x198000 x198001 x198002 x198003 x198004 x199000 x199001 x199002 x199003 x199004))
def qA5.j2 : Nat → List Int → Int → Bool → Int → List Int → Int → Int → ByteArray → ByteArray → Int → Int → Bool → List (S134) → Option (Int × Bool)
 | 0, _, _, _, _, _, _, _, _, _, _, _, _, _ => none
 | k + 1, x1, x17, x75, x198000, x198001, x198002, x198003, x198004, x199000, x199001, x199002, x199003, x199004 => if x75 = true then (if 0 < (x1.length : Int) then (if 1 < (x1.length : Int) then ((qCQ.f (rd x1 0) (rd x1 1)).bind fun bt224 => (if bt224.2 = true then (some (bt224.1, (bt224.1 != 1))) else (some (bt224.1, false)))) else (none)) else (none)) else (if x17 = 10 then (qA5.j3 k x1 x17 (x17 == 10) x198000 x198001 x198002 x198003 x198004 x199000 x199001 x199002 x199003 x199004) else (qA5.j3 k x1 x17 (x17 == 11) x198000 x198001 x198002 x198003 x198004 x199000 x199001 x199002 x199003 x199004))
def qA5.j3 : Nat → List Int → Int → Bool → Int → List Int → Int → Int → ByteArray → ByteArray → Int → Int → Bool → List (S134) → Option (Int × Bool)
 | 0, _, _, _, _, _, _, _, _, _, _, _, _, _ => none
 | k + 1, x1, x17, x94, x198000, x198001, x198002, x198003, x198004, x199000, x199001, x199002, x199003, x199004 => if x94 = true then (if 0 < (x1.length : Int) then (if 1 < (x1.length : Int) then ((qB0.f k x198000 (rd x1 0) (rd x1 1)).bind fun bt228 => (some (bt228.1, bt228.2))) else (none)) else (none)) else (if x17 = 12 then (if 0 < (x1.length : Int) then (if 1 < (x1.length : Int) then ((qAM.f k (rd x1 0) (rd x1 1)).bind fun bt232 => (some (bt232.1, bt232.2))) else (none)) else (none)) else (if x17 = 15 then (if 1 < (x1.length : Int) then (if 2 < (x1.length : Int) then ((qCQ.f (rd x1 1) (rd x1 2)).bind fun bt236 => (if bt236.2 = true then (if 0 < (x1.length : Int) then ((qAD.f k (rd x1 0) (([1] : List Int))).bind fun t242 => (some (bt236.1, t242))) else (none)) else (some (bt236.1, false)))) else (none)) else (none)) else (if x17 = 16 then (if 0 < (x1.length : Int) then ((qAD.f k (rd x1 0) (([x199001] : List Int))).bind fun t247 => (some (x199002, t247))) else (none)) else (if x17 = 17 then (if 0 < (x1.length : Int) then ((qAD.f k (rd x1 0) (([2] : List Int))).bind fun t252 => (some (2, t252))) else (none)) else (if 0 < (x1.length : Int) then ((qAD.f k (rd x1 0) (([4] : List Int))).bind fun t257 => (if t257 = true then (if 1 < (x1.length : Int) then ((qAD.f k (rd x1 1) (([4] : List Int))).bind fun t262 => (some (5, t262))) else (none)) else (some (5, false)))) else (none))))))
end
def qA5.f (k : Nat) (a0_0 : Int) (l0_1 : List Int) (a0_2 : Int) (a0_3 : Int) (a0_4 : ByteArray) (l1 : List Int) (a2_0 : ByteArray) (a2_1 : Int) (a2_2 : Int) (a2_3 : Bool) (l2_4 : List (S134)) : Option (Int × Bool) := if a0_0 = 0 then (some (a0_2, true)) else (if a0_0 = 4 then (if 0 < (l1.length : Int) then ((qAD.f k (rd l1 0) (([1] : List Int))).bind fun t203 => (some (1, t203))) else (none)) else (if a0_0 = 5 then (qA5.j0 k l1 a0_0 (a0_0 == 5) a0_0 l0_1 a0_2 a0_3 a0_4 a2_0 a2_1 a2_2 a2_3 l2_4) else (qA5.j0 k l1 a0_0 (a0_0 == 6) a0_0 l0_1 a0_2 a0_3 a0_4 a2_0 a2_1 a2_2 a2_3 l2_4)))
theorem qA5.qC6 : ∀ k, (∀ y0 y1 y2 y3 y4 y5 y6 y7 y8 y9 y10 y11 y12, LeO (qA5.j0 k y0 y1 y2 y3 y4 y5 y6 y7 y8 y9 y10 y11 y12) (qA5.j0 (k + 1) y0 y1 y2 y3 y4 y5 y6 y7 y8 y9 y10 y11 y12)) ∧ (∀ y0 y1 y2 y3 y4 y5 y6 y7 y8 y9 y10 y11 y12, LeO (qA5.j1 k y0 y1 y2 y3 y4 y5 y6 y7 y8 y9 y10 y11 y12) (qA5.j1 (k + 1) y0 y1 y2 y3 y4 y5 y6 y7 y8 y9 y10 y11 y12)) ∧ (∀ y0 y1 y2 y3 y4 y5 y6 y7 y8 y9 y10 y11 y12, LeO (qA5.j2 k y0 y1 y2 y3 y4 y5 y6 y7 y8 y9 y10 y11 y12) (qA5.j2 (k + 1) y0 y1 y2 y3 y4 y5 y6 y7 y8 y9 y10 y11 y12)) ∧ (∀ y0 y1 y2 y3 y4 y5 y6 y7 y8 y9 y10 y11 y12, LeO (qA5.j3 k y0 y1 y2 y3 y4 y5 y6 y7 y8 y9 y10 y11 y12) (qA5.j3 (k + 1) y0 y1 y2 y3 y4 y5 y6 y7 y8 y9 y10 y11 y12))
 | 0 => ⟨fun _ _ _ _ _ _ _ _ _ _ _ _ _ r h => by simp [qA5.j0] at h, fun _ _ _ _ _ _ _ _ _ _ _ _ _ r h => by simp [qA5.j1] at h, fun _ _ _ _ _ _ _ _ _ _ _ _ _ r h => by simp [qA5.j2] at h, fun _ _ _ _ _ _ _ _ _ _ _ _ _ r h => by simp [qA5.j3] at h⟩
 | k + 1 => by
  obtain ⟨ih0, ih1, ih2, ih3⟩ := qA5.qC6 k
  refine ⟨?_, ?_, ?_, ?_⟩
  ·intro y0 y1 y2 y3 y4 y5 y6 y7 y8 y9 y10 y11 y12
   unfold qA5.j0
   have im0 := @qAD.mono
   have im1 := @qAM.mono
   have im2 := @qB0.mono
   exact zm
  ·intro y0 y1 y2 y3 y4 y5 y6 y7 y8 y9 y10 y11 y12
   unfold qA5.j1
   have im0 := @qAD.mono
   have im1 := @qAM.mono
   have im2 := @qB0.mono
   exact zm
  ·intro y0 y1 y2 y3 y4 y5 y6 y7 y8 y9 y10 y11 y12
   unfold qA5.j2
   have im0 := @qAD.mono
   have im1 := @qAM.mono
   have im2 := @qB0.mono
   exact zm
  ·intro y0 y1 y2 y3 y4 y5 y6 y7 y8 y9 y10 y11 y12
   unfold qA5.j3
   have im0 := @qAD.mono
   have im1 := @qAM.mono
   have im2 := @qB0.mono
   exact zm
theorem qA5.mono : ∀ a0 a1 a2 a3 a4 a5 a6 a7 a8 a9 a10 k, LeO (qA5.f k a0 a1 a2 a3 a4 a5 a6 a7 a8 a9 a10) (qA5.f (k + 1) a0 a1 a2 a3 a4 a5 a6 a7 a8 a9 a10) := by
 intro a0 a1 a2 a3 a4 a5 a6 a7 a8 a9 a10 k
 obtain ⟨ih0, ih1, ih2, ih3⟩ := qA5.qC6 k
 unfold qA5.f
 have im0 := @qAD.mono
 have im1 := @qAM.mono
 have im2 := @qB0.mono
 exact zm
def qA5.T10 : Bool × List (List Nat × List Nat) := (true, [([], []), ([0], [0]), ([1], [1]), ([], []), ([3], [3]), ([4], [4]), ([2, 5], [2, 5]), ([6], [6]), ([7], [7]), ([7], [7]), ([8, 6, 0, 1, 2, 3, 4, 5, 6, 7, 8], [8]), ([9, 10, 0, 1, 2, 3, 4, 5, 6, 7, 8, 9, 10], [9])])
def qA5.B10 : List Nat := [0, 1, 3, 0, 8, 24, 63, 127, 255, 255, 511, 2047]
theorem qA5.tab10 : rtab .any (opsOf Tryz.f115 10) = qA5.T10 := by kernel_rfl
theorem qA5.bits10 : qDW qA5.T10.2 qA5.B10 = true := by kernel_rfl
def qA5.T14 : Bool × List (List Nat × List Nat) := (true, [([], []), ([0], [0]), ([1], [1]), ([], []), ([3], [3]), ([4], [4]), ([2, 5], [2, 5]), ([6], [6]), ([7], [7]), ([7], [7]), ([8, 6, 0, 1, 2, 3, 4, 5, 6, 7, 8], [8]), ([9, 10, 0, 1, 2, 3, 4, 5, 6, 7, 8, 9, 10], [9])])
def qA5.B14 : List Nat := [0, 1, 3, 0, 8, 24, 63, 127, 255, 255, 511, 2047]
theorem qA5.tab14 : rtab .any (opsOf Tryz.f115 14) = qA5.T14 := by kernel_rfl
theorem qA5.bits14 : qDW qA5.T14.2 qA5.B14 = true := by kernel_rfl
def qA5.T18 : Bool × List (List Nat × List Nat) := (true, [([], []), ([0], [0]), ([1], [1]), ([], []), ([3], [3]), ([4], [4]), ([2, 5], [2, 5]), ([6], [6]), ([7], [7]), ([7], [7]), ([8, 6, 0, 1, 2, 3, 4, 5, 6, 7, 8], [8]), ([9, 10, 0, 1, 2, 3, 4, 5, 6, 7, 8, 9, 10], [9])])
def qA5.B18 : List Nat := [0, 1, 3, 0, 8, 24, 63, 127, 255, 255, 511, 2047]
theorem qA5.tab18 : rtab .any (opsOf Tryz.f115 18) = qA5.T18 := by kernel_rfl
theorem qA5.bits18 : qDW qA5.T18.2 qA5.B18 = true := by kernel_rfl
def qA5.T22 : Bool × List (List Nat × List Nat) := (true, [([], []), ([0], [0]), ([], []), ([2], [2]), ([3], [3]), ([], []), ([5], [5]), ([6], [6]), ([1, 4, 7], [1, 4, 7]), ([8], [8]), ([8], [8]), ([9, 8, 0, 1, 2, 3, 4, 5, 6, 7, 8, 9, 10], [9]), ([10, 11, 0, 1, 2, 3, 4, 5, 6, 7, 8, 9, 10, 11], [10])])
def qA5.B22 : List Nat := [0, 1, 0, 4, 12, 0, 32, 96, 255, 511, 511, 2047, 4095]
theorem qA5.tab22 : rtab .any (opsOf Tryz.f115 22) = qA5.T22 := by kernel_rfl
theorem qA5.bits22 : qDW qA5.T22.2 qA5.B22 = true := by kernel_rfl
def qA5.T24 : Bool × List (List Nat × List Nat) := (true, [([], []), ([0], [0]), ([1], [1]), ([], []), ([3], [3]), ([4], [4]), ([2, 5], [2, 5]), ([6], [6]), ([6], [6]), ([7, 6, 0, 1, 2, 3, 4, 5, 6, 7, 8], [7]), ([8, 9, 0, 1, 2, 3, 4, 5, 6, 7, 8, 9], [8])])
def qA5.B24 : List Nat := [0, 1, 3, 0, 8, 24, 63, 127, 127, 511, 1023]
theorem qA5.tab24 : rtab .any (opsOf Tryz.f115 24) = qA5.T24 := by kernel_rfl
theorem qA5.bits24 : qDW qA5.T24.2 qA5.B24 = true := by kernel_rfl
def qA5.T26 : Bool × List (List Nat × List Nat) := (true, [([], []), ([0], [0]), ([1], [1]), ([], []), ([3], [3]), ([4], [4]), ([2, 5], [2, 5]), ([6], [6]), ([7], [7]), ([7], [7]), ([8, 6, 0, 1, 2, 3, 4, 5, 6, 7, 8], [8]), ([9, 10, 0, 1, 2, 3, 4, 5, 6, 7, 8, 9, 10], [9])])
def qA5.B26 : List Nat := [0, 1, 3, 0, 8, 24, 63, 127, 255, 255, 511, 2047]
theorem qA5.tab26 : rtab .any (opsOf Tryz.f115 26) = qA5.T26 := by kernel_rfl
theorem qA5.bits26 : qDW qA5.T26.2 qA5.B26 = true := by kernel_rfl
def qA5.T29 : Bool × List (List Nat × List Nat) := (true, [([], []), ([0], [0]), ([], []), ([2], [2]), ([3], [3]), ([], []), ([5], [5]), ([6], [6]), ([4, 7], [4, 7]), ([1, 8, 0, 1], [1]), ([8, 9, 0, 1, 2, 3, 4, 5, 6, 7, 8, 9], [8])])
def qA5.B29 : List Nat := [0, 1, 0, 4, 12, 0, 32, 96, 252, 511, 1023]
theorem qA5.tab29 : rtab .any (opsOf Tryz.f115 29) = qA5.T29 := by kernel_rfl
theorem qA5.bits29 : qDW qA5.T29.2 qA5.B29 = true := by kernel_rfl
theorem qA5.calls (k : Nat) (a0_0 : Int) (A0_1 : Option Addr) (c0_1 : Nat) (l0_1 : List Int) (a0_2 : Int) (a0_3 : Int) (a0_4 : ByteArray) (A1 : Option Addr) (c1 : Nat) (l1 : List Int) (a2_0 : ByteArray) (a2_1 : Int) (a2_2 : Int) (a2_3 : Bool) (A2_4 : Option Addr) (c2_4 : Nat) (l2_4 : List (S134)) (r1 : Int) (r2 : Bool) (w : World) (hr0_1 : Kd.C (Kd.int .i64) w A0_1 l0_1.length l0_1) (hc0_1 : l0_1.length ≤ c0_1) (hr1 : Kd.C (Kd.int .i64) w A1 l1.length l1) (hc1 : l1.length ≤ c1) (hr2_4 : Kd.C k134 w A2_4 l2_4.length l2_4) (hc2_4 : l2_4.length ≤ c2_4) (h : qA5.f k a0_0 l0_1 a0_2 a0_3 a0_4 l1 a2_0 a2_1 a2_2 a2_3 l2_4 = some (r1, r2)) :
  Calls Tryz.prog 115 #[.agg #[.int .i64 a0_0, .slice A0_1 l0_1.length c0_1, .int .i64 a0_2, .int .i64 a0_3, .string a0_4], .slice A1 l1.length c1, .agg #[.string a2_0, .int .i64 a2_1, .int .i64 a2_2, .bool a2_3, .slice A2_4 l2_4.length c2_4]] w fun e w' => e = .returned (.tuple #[.int .i64 r1, .bool r2]) ∧ Below w.heap.size w w' := by
 have hu66 := Tryz.underlying66
 have hu95 := Tryz.underlying95
 have HR0_1 := qA0.mk hr0_1
 have HC0_1 := qA0.mk hc0_1
 clear hr0_1 hc0_1
 have HR1 := qA0.mk hr1
 have HC1 := qA0.mk hc1
 clear hr1 hc1
 have HR2_4 := qA0.mk hr2_4
 have HC2_4 := qA0.mk hc2_4
 clear hr2_4 hc2_4
 have HB := qA0.mk (Below.refl w.heap.size w)
 have H := h
 unfold qA5.f at H
 clear h
 by_cases c4 : a0_0 = 0
 ·rw [if_pos c4] at H
  have ⟨c4b0, c4b1⟩ := ze c4
  clear c4
  simp only [Option.some.injEq, Prod.mk.injEq] at H
  obtain ⟨rfl, rfl⟩ := H
  go_enter Tryz.func115, Tryz.ntmps115
  go_wp2_with (first | ((with_reducible refine qA9 (N := 3) rfl ?_); (try (refine qBD (by rfl) ?_; dsimp only)); refine boxZ 3 #[.int .i64 a0_0, .slice A0_1 l0_1.length c0_1, .int .i64 a0_2, .int .i64 a0_3, .string a0_4] 66 ?_; intro gb197 hg w5 hbox hb; have BK197 := qA0.mk (hbox); have GW197 := zg w gb197; have GE197 := zg w gb197; replace HB := zB hb; clear hb hbox hg) | ((with_reducible refine qA9 (N := 5) rfl ?_); (try (refine qBD (by rfl) ?_; dsimp only)); refine boxZ 5 #[.string a2_0, .int .i64 a2_1, .int .i64 a2_2, .bool a2_3, .slice A2_4 l2_4.length c2_4] 95 ?_; intro gb198 hg w6 hbox hb; have BK198 := qA0.mk (hbox); have GW198 := zg w gb198; have GE198 := zg w gb198; have NB197_198 := zl BK197 gb198; have NB198_197 := zu BK197 gb198; replace BK197 := zK BK197 hb; replace HB := zB hb; clear hb hbox hg; have hnb7 := NB197_198.out; have hnc7 := NB198_197.out; obtain ⟨hcz8_0, hcz8_1, hcz8_2, hcz8_3, hcz8_4, hfz8_0, hfz8_1, hfz8_2, hfz8_3, hfz8_4⟩ := bc5 BK197.out))
  go_ret2
  exact ⟨zf, zb⟩
 rw [if_neg c4] at H
 have ⟨c4b0, c4b1⟩ := zn c4
 by_cases c9 : a0_0 = 4
 ·rw [if_pos c9] at H
  have ⟨c9b0, c9b1⟩ := ze c9
  clear c9
  by_cases c10 : 0 < (l1.length : Int)
  rotate_left
  ·rw [if_neg c10] at H
   cases H
  rw [if_pos c10] at H
  have c10b0 := decide_eq_true c10
  have c10b1 : decide (0 < l1.length) = true := decide_eq_true (by omega)
  clear c10
  obtain ⟨y200, hy_⟩ : ∃ y_ : List Int, y_ = (([1] : List Int)) := ⟨_, rfl⟩
  replace H : ((qAD.f k (rd l1 0) y200).bind fun t203 => (some (1, t203))) = some (r1, r2) := zr
  have Ny200 := qA0.mk hy_
  clear hy_
  replace H := zi H
  obtain ⟨t203, A110, H⟩ := H
  have A11 := qA0.mk A110
  clear A110
  simp only [Option.some.injEq, Prod.mk.injEq] at H
  obtain ⟨rfl, rfl⟩ := H
  go_enter Tryz.func115, Tryz.ntmps115
  go_wp2_with (first | ((with_reducible refine qA9 (N := 3) rfl ?_); (try (refine qBD (by rfl) ?_; dsimp only)); refine boxZ 3 #[.int .i64 a0_0, .slice A0_1 l0_1.length c0_1, .int .i64 a0_2, .int .i64 a0_3, .string a0_4] 66 ?_; intro gb197 hg w12 hbox hb; have BK197 := qA0.mk (hbox); have GW197 := zg w gb197; have GE197 := zg w gb197; replace HB := zB hb; clear hb hbox hg) | ((with_reducible refine qA9 (N := 5) rfl ?_); (try (refine qBD (by rfl) ?_; dsimp only)); refine boxZ 5 #[.string a2_0, .int .i64 a2_1, .int .i64 a2_2, .bool a2_3, .slice A2_4 l2_4.length c2_4] 95 ?_; intro gb198 hg w13 hbox hb; have BK198 := qA0.mk (hbox); have GW198 := zg w gb198; have GE198 := zg w gb198; have NB197_198 := zl BK197 gb198; have NB198_197 := zu BK197 gb198; replace BK197 := zK BK197 hb; replace HB := zB hb; clear hb hbox hg; have hnb14 := NB197_198.out; have hnc14 := NB198_197.out; obtain ⟨hcz15_0, hcz15_1, hcz15_2, hcz15_3, hcz15_4, hfz15_0, hfz15_1, hfz15_2, hfz15_3, hfz15_4⟩ := bc5 BK197.out; have p199 : 0 ≤ (0 : Int) := (by omega); have q199 : 0 < (l1.length : Int) := zd; obtain ⟨ad199, e199, hx199_0⟩ := Kd.qC2 HR1.out 0 p199 q199; cases e199; have qi199 : (0 < l1.length) = True := eq_true (by omega); (try rw [show ((0 : Int)).toNat = 0 from rfl] at hx199_0); (try rw [Addr.add_zero'] at hx199_0); replace hx199_0 := zh hx199_0; replace p199 := eq_true p199; replace q199 := eq_true q199) | ((with_reducible refine qA9 (N := 27) rfl ?_); (try (refine qBD (by rfl) ?_; dsimp only)); refine Kd.R_lit (Kd.int .i64) _ 3 ?hg (N := 27) ?hd (xs := ([1] : List Int)) (inner := [.int .i64 1]) (ok := fun _ => True) (okp := fun _ => True) ?hr ?hp (fun _ hk => hk) trivial (Below.refl _ _) (Nat.le_refl _) (by simp) ?_; (case hd => rfl); (case hg => rfl); (case hr => first | (go_simp; done) | (go_simp; rfl)); (case hp => exact (Reps.one (show Kd.M (Kd.int .i64) _ _ _ 1 [.int .i64 1] from rfl) (Reps.none _ _))); intro v201 w16 ho17 hb hg_ hnew_; clear hg_ hnew_; (first | rw [← Ny200.out] at ho17 | (simp only [Int.reduceToNat] at ho17; rw [← Ny200.out] at ho17)); have HO202 := qA0.mk (Kd.qCI ho17 (qAI zb)); replace BK197 := zK BK197 hb; replace BK198 := zK BK198 hb; replace HB := zB hb; clear hb ho17; obtain ⟨Ao18, co18, eo18⟩ := Kd.qBV HO202.out; subst eo18) | ((with_reducible refine qA6 (f := 144) rfl ?_); refine qBP (some 28) Tryz.func144 #[.int .i64 (rd l1 0), .slice Ao18 y200.length co18] ?_; (with_reducible refine (qAD.calls k (rd l1 0) _ _ y200 t203 _ ?side1 ?side2 A11.out).mono ?_); (case side1 => repeat (first | exact (Kd.qB3 HO202.out).2.2 | refine sC ?_)); (case side2 => exact (Kd.qB3 HO202.out).2.1); rintro e w' ⟨rfl, ⟨nd, rfl⟩⟩; refine ⟨_, rfl, ?_⟩))
  go_ret2
  exact ⟨zf, zb⟩
 rw [if_neg c9] at H
 have ⟨c9b0, c9b1⟩ := zn c9
 have HC19 := qA0.mk H
 clear H
 go_enter Tryz.func115, Tryz.ntmps115
 go_upto_if 29 with (first | ((with_reducible refine qA9 (N := 3) rfl ?_); (try (refine qBD (by rfl) ?_; dsimp only)); refine boxZ 3 #[.int .i64 a0_0, .slice A0_1 l0_1.length c0_1, .int .i64 a0_2, .int .i64 a0_3, .string a0_4] 66 ?_; intro gb197 hg w20 hbox hb; have BK197 := qA0.mk (hbox); have GW197 := zg w gb197; have GE197 := zg w gb197; replace HB := zB hb; clear hb hbox hg) | ((with_reducible refine qA9 (N := 5) rfl ?_); (try (refine qBD (by rfl) ?_; dsimp only)); refine boxZ 5 #[.string a2_0, .int .i64 a2_1, .int .i64 a2_2, .bool a2_3, .slice A2_4 l2_4.length c2_4] 95 ?_; intro gb198 hg w21 hbox hb; have BK198 := qA0.mk (hbox); have GW198 := zg w gb198; have GE198 := zg w gb198; have NB197_198 := zl BK197 gb198; have NB198_197 := zu BK197 gb198; replace BK197 := zK BK197 hb; replace HB := zB hb; clear hb hbox hg; have hnb22 := NB197_198.out; have hnc22 := NB198_197.out; obtain ⟨hcz23_0, hcz23_1, hcz23_2, hcz23_3, hcz23_4, hfz23_0, hfz23_1, hfz23_2, hfz23_3, hfz23_4⟩ := bc5 BK197.out))
 go_cut [29] (fun v29 wc => ∃ (kq : Nat) (x29_18 : Bool), v29 = .bool x29_18 ∧ qA0 (qA5.j0 kq l1 a0_0 x29_18 a0_0 l0_1 a0_2 a0_3 a0_4 a2_0 a2_1 a2_2 a2_3 l2_4 = some (r1, r2)) ∧ qA0 (kq ≤ k) ∧ qA0 (wc.heap[gb197]? = some (.cells #[.int .i64 a0_0, (.slice A0_1 l0_1.length c0_1), .int .i64 a0_2, .int .i64 a0_3, .string a0_4] 66 (0, 0))) ∧ qA0 (wc.heap[gb198]? = some (.cells #[.string a2_0, .int .i64 a2_1, .int .i64 a2_2, .bool a2_3, (.slice A2_4 l2_4.length c2_4)] 95 (0, 0))) ∧ qA0 (Below w.heap.size w wc))
 case first =>
  have H := HC19.out
  clear HC19
  by_cases c24 : a0_0 = 5
  rotate_left
  ·rw [if_neg c24] at H
   have ⟨c24b0, c24b1⟩ := zn c24
   (first | rw [c24b0] | (simp only [qC9, qCB]; rw [c24b0]) | skip)
   have H' := qA0.mk H
   clear H
   go_wp2
   go_meet
   case rel => exact ⟨_, ((a0_0 == 6)), zs, H', ⟨by first | omega | exact Nat.le_refl _⟩, ⟨zk BK197⟩, ⟨zk BK198⟩, ⟨zb⟩⟩
  rw [if_pos c24] at H
  have ⟨c24b0, c24b1⟩ := ze c24
  clear c24
  (first | rw [c24b0] | (simp only [qC9, qCB]; rw [c24b0]) | skip)
  have H' := qA0.mk H
  clear H
  go_wp2
  go_meet
  case rel => exact ⟨_, ((a0_0 == 5)), zs, H', ⟨by first | omega | exact Nat.le_refl _⟩, ⟨zk BK197⟩, ⟨zk BK198⟩, ⟨zb⟩⟩
 clear HC19 c4 c4b0 c4b1 c9 c9b0 c9b1 hcz23_0 hcz23_1 hcz23_2 hcz23_3 hcz23_4 hfz23_0 hfz23_1 hfz23_2 hfz23_3 hfz23_4
 obtain ⟨kq, x29_18, rfl, HA, HJ18, BK197, BK198, HB⟩ := hcut
 obtain _ | kj18 := kq
 ·exact absurd HA.out (by simp [qA5.j0])
 have H := HA.out
 clear HA
 simp only [qA5.j0] at H
 by_cases c25 : x29_18 = true
 ·subst c25
  rw [if_pos rfl] at H
  by_cases c26 : 0 < (l1.length : Int)
  rotate_left
  ·rw [if_neg c26] at H
   cases H
  rw [if_pos c26] at H
  have c26b0 := decide_eq_true c26
  have c26b1 : decide (0 < l1.length) = true := decide_eq_true (by omega)
  clear c26
  obtain ⟨y205, hy_⟩ : ∃ y_ : List Int, y_ = (([1] : List Int)) := ⟨_, rfl⟩
  replace H : ((qAD.f kj18 (rd l1 0) y205).bind fun t208 => (if t208 = true then (if 1 < (l1.length : Int) then ((qAD.f kj18 (rd l1 1) (([1] : List Int))).bind fun t213 => (some (1, t213))) else (none)) else (some (1, false)))) = some (r1, r2) := zr
  have Ny205 := qA0.mk hy_
  clear hy_
  replace H := zi H
  obtain ⟨t208, A270, H⟩ := H
  have A27 := qA0.mk A270
  clear A270
  by_cases c28 : t208 = true
  rotate_left
  ·replace c28 := Bool.eq_false_iff.mpr c28
   subst c28
   rw [zj] at H
   simp only [Option.some.injEq, Prod.mk.injEq] at H
   obtain ⟨rfl, rfl⟩ := H
   have p204 : 0 ≤ (0 : Int) := (by omega)
   have q204 : 0 < (l1.length : Int) := zd
   obtain ⟨ad204, e204, hx204_0⟩ := Kd.qC2 HR1.out 0 p204 q204
   cases e204
   have qi204 : (0 < l1.length) = True := eq_true (by omega)
   (try rw [show ((0 : Int)).toNat = 0 from rfl] at hx204_0)
   (try rw [Addr.add_zero'] at hx204_0)
   (try replace hx204_0 := zh hx204_0)
   replace p204 := eq_true p204
   replace q204 := eq_true q204
   go_wp2_with (first | ((with_reducible refine qA9 (N := 35) rfl ?_); (try (refine qBD (by rfl) ?_; dsimp only)); refine Kd.R_lit (Kd.int .i64) _ 3 ?hg (N := 35) ?hd (xs := ([1] : List Int)) (inner := [.int .i64 1]) (ok := fun _ => True) (okp := fun _ => True) ?hr ?hp (fun _ hk => hk) trivial (Below.refl _ _) (Nat.le_refl _) (by simp) ?_; (case hd => rfl); (case hg => rfl); (case hr => first | (go_simp; done) | (go_simp; rfl)); (case hp => exact (Reps.one (show Kd.M (Kd.int .i64) _ _ _ 1 [.int .i64 1] from rfl) (Reps.none _ _))); intro v206 w37 ho38 hb hg_ hnew_; clear hg_ hnew_; (first | rw [← Ny205.out] at ho38 | (simp only [Int.reduceToNat] at ho38; rw [← Ny205.out] at ho38)); have HO207 := qA0.mk (Kd.qCI ho38 (qAI zb)); replace BK197 := zK BK197 hb; replace BK198 := zK BK198 hb; replace HB := zB hb; clear hb ho38; obtain ⟨Ao39, co39, eo39⟩ := Kd.qBV HO207.out; subst eo39) | ((with_reducible refine qA6 (f := 144) rfl ?_); refine qBP (some 36) Tryz.func144 #[.int .i64 (rd l1 0), .slice Ao39 y205.length co39] ?_; (with_reducible refine (qAD.calls kj18 (rd l1 0) _ _ y205 false _ ?side1 ?side2 A27.out).mono ?_); (case side1 => repeat (first | exact (Kd.qB3 HO207.out).2.2 | refine sC ?_)); (case side2 => exact (Kd.qB3 HO207.out).2.1); rintro e w' ⟨rfl, ⟨nd, rfl⟩⟩; refine ⟨_, rfl, ?_⟩))
   go_ret2
   exact ⟨zf, zb⟩
  subst c28
  rw [if_pos rfl] at H
  by_cases c29 : 1 < (l1.length : Int)
  rotate_left
  ·rw [if_neg c29] at H
   cases H
  rw [if_pos c29] at H
  have c29b0 := decide_eq_true c29
  have c29b1 : decide (1 < l1.length) = true := decide_eq_true (by omega)
  clear c29
  obtain ⟨y210, hy_⟩ : ∃ y_ : List Int, y_ = (([1] : List Int)) := ⟨_, rfl⟩
  replace H : ((qAD.f kj18 (rd l1 1) y210).bind fun t213 => (some (1, t213))) = some (r1, r2) := zr
  have Ny210 := qA0.mk hy_
  clear hy_
  replace H := zi H
  obtain ⟨t213, A300, H⟩ := H
  have A30 := qA0.mk A300
  clear A300
  simp only [Option.some.injEq, Prod.mk.injEq] at H
  obtain ⟨rfl, rfl⟩ := H
  have p204 : 0 ≤ (0 : Int) := (by omega)
  have q204 : 0 < (l1.length : Int) := zd
  obtain ⟨ad204, e204, hx204_0⟩ := Kd.qC2 HR1.out 0 p204 q204
  cases e204
  have qi204 : (0 < l1.length) = True := eq_true (by omega)
  (try rw [show ((0 : Int)).toNat = 0 from rfl] at hx204_0)
  (try rw [Addr.add_zero'] at hx204_0)
  (try replace hx204_0 := zh hx204_0)
  replace p204 := eq_true p204
  replace q204 := eq_true q204
  go_wp2_with (first | ((with_reducible refine qA9 (N := 35) rfl ?_); (try (refine qBD (by rfl) ?_; dsimp only)); refine Kd.R_lit (Kd.int .i64) _ 3 ?hg (N := 35) ?hd (xs := ([1] : List Int)) (inner := [.int .i64 1]) (ok := fun _ => True) (okp := fun _ => True) ?hr ?hp (fun _ hk => hk) trivial (Below.refl _ _) (Nat.le_refl _) (by simp) ?_; (case hd => rfl); (case hg => rfl); (case hr => first | (go_simp; done) | (go_simp; rfl)); (case hp => exact (Reps.one (show Kd.M (Kd.int .i64) _ _ _ 1 [.int .i64 1] from rfl) (Reps.none _ _))); intro v206 w31 ho32 hb hg_ hnew_; clear hg_ hnew_; (first | rw [← Ny205.out] at ho32 | (simp only [Int.reduceToNat] at ho32; rw [← Ny205.out] at ho32)); have HO207 := qA0.mk (Kd.qCI ho32 (qAI zb)); replace BK197 := zK BK197 hb; replace BK198 := zK BK198 hb; replace HB := zB hb; clear hb ho32; obtain ⟨Ao33, co33, eo33⟩ := Kd.qBV HO207.out; subst eo33) | ((with_reducible refine qA6 (f := 144) rfl ?_); refine qBP (some 36) Tryz.func144 #[.int .i64 (rd l1 0), .slice Ao33 y205.length co33] ?_; (with_reducible refine (qAD.calls kj18 (rd l1 0) _ _ y205 true _ ?side1 ?side2 A27.out).mono ?_); (case side1 => repeat (first | exact (Kd.qB3 HO207.out).2.2 | refine sC ?_)); (case side2 => exact (Kd.qB3 HO207.out).2.1); rintro e w' ⟨rfl, ⟨nd, rfl⟩⟩; refine ⟨_, rfl, ?_⟩; have p209 : 0 ≤ (1 : Int) := (by omega); have q209 : 1 < (l1.length : Int) := zd; obtain ⟨ad209, e209, hx209_0⟩ := Kd.qC2 HR1.out 1 p209 q209; obtain rfl : ad204 = ad209 := (by injection e209); (try simp only [show (1 : Int).toNat = 1 from rfl, Nat.reduceMul, Nat.reduceEqDiff, Go.Addr.add, ↓reduceIte] at hx209_0); have qi209 : (1 < l1.length) = True := eq_true (by omega); (try rw [show ((1 : Int)).toNat = 1 from rfl] at hx209_0); replace hx209_0 := zh hx209_0; replace p209 := eq_true p209; replace q209 := eq_true q209) | ((with_reducible refine qA9 (N := 41) rfl ?_); (try (refine qBD (by rfl) ?_; dsimp only)); refine Kd.R_lit (Kd.int .i64) _ 3 ?hg (N := 41) ?hd (xs := ([1] : List Int)) (inner := [.int .i64 1]) (ok := fun _ => True) (okp := fun _ => True) ?hr ?hp (fun _ hk => hk) trivial (Below.refl _ _) (Nat.le_refl _) (by simp) ?_; (case hd => rfl); (case hg => rfl); (case hr => first | (go_simp; done) | (go_simp; rfl)); (case hp => exact (Reps.one (show Kd.M (Kd.int .i64) _ _ _ 1 [.int .i64 1] from rfl) (Reps.none _ _))); intro v211 w34 ho35 hb hg_ hnew_; clear hg_ hnew_; (first | rw [← Ny210.out] at ho35 | (simp only [Int.reduceToNat] at ho35; rw [← Ny210.out] at ho35)); have HO212 := qA0.mk (Kd.qCI (Kd.R_new' ho35 (Kd.R_lt (by (with_reducible repeat (first | apply Kd.R_alloc | apply Kd.R_drewN | apply Kd.qEY)); exact HO207.out))) (qAI zb)); replace HO207 := qA0.mk (Kd.R_elder' (by (with_reducible repeat (first | apply Kd.R_alloc | apply Kd.R_drewN | apply Kd.qEY)); exact HO207.out) (Kd.R_base ho35) hb); replace BK197 := zK BK197 hb; replace BK198 := zK BK198 hb; replace HB := zB hb; clear hb ho35; obtain ⟨Ao36, co36, eo36⟩ := Kd.qBV HO212.out; subst eo36) | (go_at_call 144; (with_reducible refine (qAD.calls kj18 (rd l1 1) _ _ y210 t213 _ ?side1 ?side2 A30.out).mono ?_); (case side1 => repeat (first | exact (Kd.qB3 HO212.out).2.2 | refine sC ?_)); (case side2 => exact (Kd.qB3 HO212.out).2.1); rintro e w' ⟨rfl, ⟨nd, rfl⟩⟩))
  go_ret2
  exact ⟨zf, zb⟩
 replace c25 := Bool.eq_false_iff.mpr c25
 subst c25
 rw [zj] at H
 by_cases c40 : a0_0 = 9
 ·rw [if_pos c40] at H
  have ⟨c40b0, c40b1⟩ := ze c40
  clear c40
  by_cases c41 : 0 < (l1.length : Int)
  rotate_left
  ·rw [if_neg c41] at H
   cases H
  rw [if_pos c41] at H
  have c41b0 := decide_eq_true c41
  have c41b1 : decide (0 < l1.length) = true := decide_eq_true (by omega)
  clear c41
  by_cases c42 : 1 < (l1.length : Int)
  rotate_left
  ·rw [if_neg c42] at H
   cases H
  rw [if_pos c42] at H
  have c42b0 := decide_eq_true c42
  have c42b1 : decide (1 < l1.length) = true := decide_eq_true (by omega)
  clear c42
  replace H := zi H
  obtain ⟨⟨t216, t217⟩, A430, H⟩ := H
  replace H : (some (1, t217)) = some (r1, r2) := H
  have A43 := qA0.mk A430
  clear A430
  simp only [Option.some.injEq, Prod.mk.injEq] at H
  obtain ⟨rfl, rfl⟩ := H
  try go_wp2
  replace BK197 := qA0.mk (qB2 BK197.out)
  replace BK198 := qA0.mk (qB2 BK198.out)
  replace HB := qA0.mk (qAF HB.out)
  have p214 : 0 ≤ (0 : Int) := (by omega)
  have q214 : 0 < (l1.length : Int) := zd
  obtain ⟨ad214, e214, hx214_0⟩ := Kd.qC2 HR1.out 0 p214 q214
  have hw214_0 := hx214_0
  (try rw [show ((0 : Int)).toNat = 0 from rfl] at hw214_0)
  (try rw [Addr.add_zero'] at hw214_0)
  cases e214
  have qi214 : (0 < l1.length) = True := eq_true (by omega)
  (try rw [show ((0 : Int)).toNat = 0 from rfl] at hx214_0)
  (try rw [Addr.add_zero'] at hx214_0)
  (try replace hx214_0 := zh hx214_0)
  replace p214 := eq_true p214
  replace q214 := eq_true q214
  have p215 : 0 ≤ (1 : Int) := (by omega)
  have q215 : 1 < (l1.length : Int) := zd
  obtain ⟨ad215, e215, hx215_0⟩ := Kd.qC2 HR1.out 1 p215 q215
  have hw215_0 := hx215_0
  (try rw [show ((1 : Int)).toNat = 1 from rfl] at hw215_0)
  (try simp only [Nat.reduceMul, Nat.reduceEqDiff, Go.Addr.add, ↓reduceIte] at hw215_0)
  obtain rfl : ad214 = ad215 := (by injection e215)
  (try simp only [show (1 : Int).toNat = 1 from rfl, Nat.reduceMul, Nat.reduceEqDiff, Go.Addr.add, ↓reduceIte] at hx215_0)
  have qi215 : (1 < l1.length) = True := eq_true (by omega)
  (try replace hx215_0 := zh hx215_0)
  replace p215 := eq_true p215
  replace q215 := eq_true q215
  refine qEA (n := 12) (S := fun w' => w'.cell? ad214 = some (.int .i64 (rd l1 0)) ∧ w'.cell? ⟨ad214.block, ad214.off + 1, none⟩ = some (.int .i64 (rd l1 1))) (ds := []) (bs 12 0) (by kernel_rfl) rfl rfl ⟨(zh hw214_0), (zh hw215_0)⟩ (fun hHeld => ?_); refine qCS qA5.tab10 qA5.bits10 (fun HT_ HW_ => ?_)
  generalize wc.drew = w44 at BK197 BK198 HB hx214_0 hx215_0 hHeld ⊢
  refine qBF (i := 0) (N := some 47) (bs 12 1) ?_
  refine qBF (i := 1) (N := some 48) (bs 12 3) ?_
  refine qBF (i := 3) (N := some 50) (bs 12 11) ?_
  refine qBF (i := 4) (N := some 51) (bs 12 27) ?_
  refine qDT (i := 2) (N := some 49) (bs 12 31) ?_
  refine qDT (i := 5) (N := some 52) (bs 12 63) ?_
  refine one_ (i := 6) (N := some 53) (bs 12 127) rfl rfl (qCR HT_.out (by kernel_rfl)) (by decide) (fun K hK => ?_)
  refine qEO Tryz.func145 (by kernel_rfl) rfl #[.int .i64 (rd l1 0), .int .i64 (rd l1 1)] (by rfl) rfl rfl (by (try simp only [List.map_toArray, List.map_cons, List.map_nil]); first | done | rfl | (simp only [List.length_drop, List.length_take]; rfl)) ?_
  with_reducible refine (qCQ.calls (rd l1 0) (rd l1 1) t216 t217 _ A43.out).mono ?_
  rintro e w' ⟨rfl, ⟨nd, rfl⟩⟩
  refine ⟨_, rfl, ?_⟩
  refine hK.out _ _ ⟨(zh hw214_0), (zh hw215_0)⟩ (fun hHeld => ?_)
  clear hK K
  refine qEB ?_
  refine qBF (i := 7) (N := some 46) (bs 12 255) ?_
  refine qBF (i := 8) (N := some 54) (bs 12 511) ?_
  refine qBF (i := 9) (N := some 55) (bs 12 1023) ?_
  refine qBF (i := 10) (N := some 8) (bs 12 2047) ?_
  refine qBF (i := 11) (N := some 9) (bs 12 4095) ?_
  refine qF9 (qDX HT_.out (by kernel_rfl)) ?_
  try go_wp2
  go_ret2
  exact ⟨zf, zb⟩
 rw [if_neg c40] at H
 have ⟨c40b0, c40b1⟩ := zn c40
 have HC45 := qA0.mk H
 clear H
 go_upto_if 57 with (fail)
 go_cut [57] (fun v57 wc => ∃ (kq : Nat) (x57_44 : Bool), v57 = .bool x57_44 ∧ qA0 (qA5.j1 kq l1 a0_0 x57_44 a0_0 l0_1 a0_2 a0_3 a0_4 a2_0 a2_1 a2_2 a2_3 l2_4 = some (r1, r2)) ∧ qA0 (kq ≤ kj18) ∧ qA0 (wc.heap[gb197]? = some (.cells #[.int .i64 a0_0, (.slice A0_1 l0_1.length c0_1), .int .i64 a0_2, .int .i64 a0_3, .string a0_4] 66 (0, 0))) ∧ qA0 (wc.heap[gb198]? = some (.cells #[.string a2_0, .int .i64 a2_1, .int .i64 a2_2, .bool a2_3, (.slice A2_4 l2_4.length c2_4)] 95 (0, 0))) ∧ qA0 (Below w.heap.size w wc))
 case first =>
  have H := HC45.out
  clear HC45
  by_cases c46 : a0_0 = 7
  rotate_left
  ·rw [if_neg c46] at H
   have ⟨c46b0, c46b1⟩ := zn c46
   (first | rw [c46b0] | (simp only [qC9, qCB]; rw [c46b0]) | skip)
   have H' := qA0.mk H
   clear H
   go_wp2
   go_meet
   case rel => exact ⟨_, ((a0_0 == 8)), zs, H', ⟨by have := HJ18.out; first | omega | exact Nat.le_refl _⟩, ⟨zk BK197⟩, ⟨zk BK198⟩, ⟨zb⟩⟩
  rw [if_pos c46] at H
  have ⟨c46b0, c46b1⟩ := ze c46
  clear c46
  (first | rw [c46b0] | (simp only [qC9, qCB]; rw [c46b0]) | skip)
  have H' := qA0.mk H
  clear H
  go_wp2
  go_meet
  case rel => exact ⟨_, ((a0_0 == 7)), zs, H', ⟨by have := HJ18.out; first | omega | exact Nat.le_refl _⟩, ⟨zk BK197⟩, ⟨zk BK198⟩, ⟨zb⟩⟩
 clear HC45 c40 c40b0 c40b1
 obtain ⟨kq, x57_44, rfl, HA, HJ44, BK197, BK198, HB⟩ := hcut
 obtain _ | kj44 := kq
 ·exact absurd HA.out (by simp [qA5.j1])
 have H := HA.out
 clear HA
 simp only [qA5.j1] at H
 by_cases c47 : x57_44 = true
 ·subst c47
  rw [if_pos rfl] at H
  by_cases c48 : 0 < (l1.length : Int)
  rotate_left
  ·rw [if_neg c48] at H
   cases H
  rw [if_pos c48] at H
  have c48b0 := decide_eq_true c48
  have c48b1 : decide (0 < l1.length) = true := decide_eq_true (by omega)
  clear c48
  by_cases c49 : 1 < (l1.length : Int)
  rotate_left
  ·rw [if_neg c49] at H
   cases H
  rw [if_pos c49] at H
  have c49b0 := decide_eq_true c49
  have c49b1 : decide (1 < l1.length) = true := decide_eq_true (by omega)
  clear c49
  replace H := zi H
  obtain ⟨⟨t220, t221⟩, A500, H⟩ := H
  dsimp only at H
  have A50 := qA0.mk A500
  clear A500
  by_cases c51 : t221 = true
  ·subst c51
   rw [if_pos rfl] at H
   simp only [Option.some.injEq, Prod.mk.injEq] at H
   obtain ⟨rfl, rfl⟩ := H
   try go_wp2
   replace BK197 := qA0.mk (qB2 BK197.out)
   replace BK198 := qA0.mk (qB2 BK198.out)
   replace HB := qA0.mk (qAF HB.out)
   have p218 : 0 ≤ (0 : Int) := (by omega)
   have q218 : 0 < (l1.length : Int) := zd
   obtain ⟨ad218, e218, hx218_0⟩ := Kd.qC2 HR1.out 0 p218 q218
   have hw218_0 := hx218_0
   (try rw [show ((0 : Int)).toNat = 0 from rfl] at hw218_0)
   (try rw [Addr.add_zero'] at hw218_0)
   cases e218
   have qi218 : (0 < l1.length) = True := eq_true (by omega)
   (try rw [show ((0 : Int)).toNat = 0 from rfl] at hx218_0)
   (try rw [Addr.add_zero'] at hx218_0)
   (try replace hx218_0 := zh hx218_0)
   replace p218 := eq_true p218
   replace q218 := eq_true q218
   have p219 : 0 ≤ (1 : Int) := (by omega)
   have q219 : 1 < (l1.length : Int) := zd
   obtain ⟨ad219, e219, hx219_0⟩ := Kd.qC2 HR1.out 1 p219 q219
   have hw219_0 := hx219_0
   (try rw [show ((1 : Int)).toNat = 1 from rfl] at hw219_0)
   (try simp only [Nat.reduceMul, Nat.reduceEqDiff, Go.Addr.add, ↓reduceIte] at hw219_0)
   obtain rfl : ad218 = ad219 := (by injection e219)
   (try simp only [show (1 : Int).toNat = 1 from rfl, Nat.reduceMul, Nat.reduceEqDiff, Go.Addr.add, ↓reduceIte] at hx219_0)
   have qi219 : (1 < l1.length) = True := eq_true (by omega)
   (try replace hx219_0 := zh hx219_0)
   replace p219 := eq_true p219
   replace q219 := eq_true q219
   refine qEA (n := 12) (S := fun w' => w'.cell? ad218 = some (.int .i64 (rd l1 0)) ∧ w'.cell? ⟨ad218.block, ad218.off + 1, none⟩ = some (.int .i64 (rd l1 1))) (ds := []) (bs 12 0) (by kernel_rfl) rfl rfl ⟨(zh hw218_0), (zh hw219_0)⟩ (fun hHeld => ?_); refine qCS qA5.tab14 qA5.bits14 (fun HT_ HW_ => ?_)
   generalize wc.drew = w52 at BK197 BK198 HB hx218_0 hx219_0 hHeld ⊢
   refine qBF (i := 0) (N := some 61) (bs 12 1) ?_
   refine qBF (i := 1) (N := some 62) (bs 12 3) ?_
   refine qBF (i := 3) (N := some 64) (bs 12 11) ?_
   refine qBF (i := 4) (N := some 65) (bs 12 27) ?_
   refine qDT (i := 2) (N := some 63) (bs 12 31) ?_
   refine qDT (i := 5) (N := some 66) (bs 12 63) ?_
   refine one_ (i := 6) (N := some 67) (bs 12 127) rfl rfl (qCR HT_.out (by kernel_rfl)) (by decide) (fun K hK => ?_)
   refine qEO Tryz.func145 (by kernel_rfl) rfl #[.int .i64 (rd l1 0), .int .i64 (rd l1 1)] (by rfl) rfl rfl (by (try simp only [List.map_toArray, List.map_cons, List.map_nil]); first | done | rfl | (simp only [List.length_drop, List.length_take]; rfl)) ?_
   with_reducible refine (qCQ.calls (rd l1 0) (rd l1 1) t220 true _ A50.out).mono ?_
   rintro e w' ⟨rfl, ⟨nd, rfl⟩⟩
   refine ⟨_, rfl, ?_⟩
   refine hK.out _ _ ⟨(zh hw218_0), (zh hw219_0)⟩ (fun hHeld => ?_)
   clear hK K
   refine qEB ?_
   refine qBF (i := 7) (N := some 60) (bs 12 255) ?_
   refine qBF (i := 8) (N := some 68) (bs 12 511) ?_
   refine qBF (i := 9) (N := some 69) (bs 12 1023) ?_
   refine qBF (i := 10) (N := some 10) (bs 12 2047) ?_
   refine qBF (i := 11) (N := some 11) (bs 12 4095) ?_
   refine qF9 (qDX HT_.out (by kernel_rfl)) ?_
   try go_wp2
   go_ret2
   exact ⟨zf, zb⟩
  replace c51 := Bool.eq_false_iff.mpr c51
  subst c51
  rw [zj] at H
  simp only [Option.some.injEq, Prod.mk.injEq] at H
  obtain ⟨rfl, rfl⟩ := H
  try go_wp2
  replace BK197 := qA0.mk (qB2 BK197.out)
  replace BK198 := qA0.mk (qB2 BK198.out)
  replace HB := qA0.mk (qAF HB.out)
  have p218 : 0 ≤ (0 : Int) := (by omega)
  have q218 : 0 < (l1.length : Int) := zd
  obtain ⟨ad218, e218, hx218_0⟩ := Kd.qC2 HR1.out 0 p218 q218
  have hw218_0 := hx218_0
  (try rw [show ((0 : Int)).toNat = 0 from rfl] at hw218_0)
  (try rw [Addr.add_zero'] at hw218_0)
  cases e218
  have qi218 : (0 < l1.length) = True := eq_true (by omega)
  (try rw [show ((0 : Int)).toNat = 0 from rfl] at hx218_0)
  (try rw [Addr.add_zero'] at hx218_0)
  (try replace hx218_0 := zh hx218_0)
  replace p218 := eq_true p218
  replace q218 := eq_true q218
  have p219 : 0 ≤ (1 : Int) := (by omega)
  have q219 : 1 < (l1.length : Int) := zd
  obtain ⟨ad219, e219, hx219_0⟩ := Kd.qC2 HR1.out 1 p219 q219
  have hw219_0 := hx219_0
  (try rw [show ((1 : Int)).toNat = 1 from rfl] at hw219_0)
  (try simp only [Nat.reduceMul, Nat.reduceEqDiff, Go.Addr.add, ↓reduceIte] at hw219_0)
  obtain rfl : ad218 = ad219 := (by injection e219)
  (try simp only [show (1 : Int).toNat = 1 from rfl, Nat.reduceMul, Nat.reduceEqDiff, Go.Addr.add, ↓reduceIte] at hx219_0)
  have qi219 : (1 < l1.length) = True := eq_true (by omega)
  (try replace hx219_0 := zh hx219_0)
  replace p219 := eq_true p219
  replace q219 := eq_true q219
  refine qEA (n := 12) (S := fun w' => w'.cell? ad218 = some (.int .i64 (rd l1 0)) ∧ w'.cell? ⟨ad218.block, ad218.off + 1, none⟩ = some (.int .i64 (rd l1 1))) (ds := []) (bs 12 0) (by kernel_rfl) rfl rfl ⟨(zh hw218_0), (zh hw219_0)⟩ (fun hHeld => ?_); refine qCS qA5.tab14 qA5.bits14 (fun HT_ HW_ => ?_)
  generalize wc.drew = w53 at BK197 BK198 HB hx218_0 hx219_0 hHeld ⊢
  refine qBF (i := 0) (N := some 61) (bs 12 1) ?_
  refine qBF (i := 1) (N := some 62) (bs 12 3) ?_
  refine qBF (i := 3) (N := some 64) (bs 12 11) ?_
  refine qBF (i := 4) (N := some 65) (bs 12 27) ?_
  refine qDT (i := 2) (N := some 63) (bs 12 31) ?_
  refine qDT (i := 5) (N := some 66) (bs 12 63) ?_
  refine one_ (i := 6) (N := some 67) (bs 12 127) rfl rfl (qCR HT_.out (by kernel_rfl)) (by decide) (fun K hK => ?_)
  refine qEO Tryz.func145 (by kernel_rfl) rfl #[.int .i64 (rd l1 0), .int .i64 (rd l1 1)] (by rfl) rfl rfl (by (try simp only [List.map_toArray, List.map_cons, List.map_nil]); first | done | rfl | (simp only [List.length_drop, List.length_take]; rfl)) ?_
  with_reducible refine (qCQ.calls (rd l1 0) (rd l1 1) t220 false _ A50.out).mono ?_
  rintro e w' ⟨rfl, ⟨nd, rfl⟩⟩
  refine ⟨_, rfl, ?_⟩
  refine hK.out _ _ ⟨(zh hw218_0), (zh hw219_0)⟩ (fun hHeld => ?_)
  clear hK K
  refine qEB ?_
  refine qBF (i := 7) (N := some 60) (bs 12 255) ?_
  refine qBF (i := 8) (N := some 68) (bs 12 511) ?_
  refine qBF (i := 9) (N := some 69) (bs 12 1023) ?_
  refine qBF (i := 10) (N := some 10) (bs 12 2047) ?_
  refine qBF (i := 11) (N := some 11) (bs 12 4095) ?_
  refine qF9 (qDX HT_.out (by kernel_rfl)) ?_
  try go_wp2
  go_ret2
  exact ⟨zf, zb⟩
 replace c47 := Bool.eq_false_iff.mpr c47
 subst c47
 rw [zj] at H
 have HC54 := qA0.mk H
 clear H
 go_upto_if 75 with (fail)
 go_cut [75] (fun v75 wc => ∃ (kq : Nat) (x75_53 : Bool), v75 = .bool x75_53 ∧ qA0 (qA5.j2 kq l1 a0_0 x75_53 a0_0 l0_1 a0_2 a0_3 a0_4 a2_0 a2_1 a2_2 a2_3 l2_4 = some (r1, r2)) ∧ qA0 (kq ≤ kj44) ∧ qA0 (wc.heap[gb197]? = some (.cells #[.int .i64 a0_0, (.slice A0_1 l0_1.length c0_1), .int .i64 a0_2, .int .i64 a0_3, .string a0_4] 66 (0, 0))) ∧ qA0 (wc.heap[gb198]? = some (.cells #[.string a2_0, .int .i64 a2_1, .int .i64 a2_2, .bool a2_3, (.slice A2_4 l2_4.length c2_4)] 95 (0, 0))) ∧ qA0 (Below w.heap.size w wc))
 case first =>
  have H := HC54.out
  clear HC54
  by_cases c55 : a0_0 = 13
  rotate_left
  ·rw [if_neg c55] at H
   have ⟨c55b0, c55b1⟩ := zn c55
   (first | rw [c55b0] | (simp only [qC9, qCB]; rw [c55b0]) | skip)
   have H' := qA0.mk H
   clear H
   go_wp2
   go_meet
   case rel => exact ⟨_, ((a0_0 == 14)), zs, H', ⟨by have := HJ18.out; have := HJ44.out; first | omega | exact Nat.le_refl _⟩, ⟨zk BK197⟩, ⟨zk BK198⟩, ⟨zb⟩⟩
  rw [if_pos c55] at H
  have ⟨c55b0, c55b1⟩ := ze c55
  clear c55
  (first | rw [c55b0] | (simp only [qC9, qCB]; rw [c55b0]) | skip)
  have H' := qA0.mk H
  clear H
  go_wp2
  go_meet
  case rel => exact ⟨_, ((a0_0 == 13)), zs, H', ⟨by have := HJ18.out; have := HJ44.out; first | omega | exact Nat.le_refl _⟩, ⟨zk BK197⟩, ⟨zk BK198⟩, ⟨zb⟩⟩
 clear HC54
 obtain ⟨kq, x75_53, rfl, HA, HJ53, BK197, BK198, HB⟩ := hcut
 obtain _ | kj53 := kq
 ·exact absurd HA.out (by simp [qA5.j2])
 have H := HA.out
 clear HA
 simp only [qA5.j2] at H
 by_cases c56 : x75_53 = true
 ·subst c56
  rw [if_pos rfl] at H
  by_cases c57 : 0 < (l1.length : Int)
  rotate_left
  ·rw [if_neg c57] at H
   cases H
  rw [if_pos c57] at H
  have c57b0 := decide_eq_true c57
  have c57b1 : decide (0 < l1.length) = true := decide_eq_true (by omega)
  clear c57
  by_cases c58 : 1 < (l1.length : Int)
  rotate_left
  ·rw [if_neg c58] at H
   cases H
  rw [if_pos c58] at H
  have c58b0 := decide_eq_true c58
  have c58b1 : decide (1 < l1.length) = true := decide_eq_true (by omega)
  clear c58
  replace H := zi H
  obtain ⟨⟨t224, t225⟩, A590, H⟩ := H
  dsimp only at H
  have A59 := qA0.mk A590
  clear A590
  by_cases c60 : t225 = true
  ·subst c60
   rw [if_pos rfl] at H
   simp only [Option.some.injEq, Prod.mk.injEq] at H
   obtain ⟨rfl, rfl⟩ := H
   try go_wp2
   replace BK197 := qA0.mk (qB2 BK197.out)
   replace BK198 := qA0.mk (qB2 BK198.out)
   replace HB := qA0.mk (qAF HB.out)
   have p222 : 0 ≤ (0 : Int) := (by omega)
   have q222 : 0 < (l1.length : Int) := zd
   obtain ⟨ad222, e222, hx222_0⟩ := Kd.qC2 HR1.out 0 p222 q222
   have hw222_0 := hx222_0
   (try rw [show ((0 : Int)).toNat = 0 from rfl] at hw222_0)
   (try rw [Addr.add_zero'] at hw222_0)
   cases e222
   have qi222 : (0 < l1.length) = True := eq_true (by omega)
   (try rw [show ((0 : Int)).toNat = 0 from rfl] at hx222_0)
   (try rw [Addr.add_zero'] at hx222_0)
   (try replace hx222_0 := zh hx222_0)
   replace p222 := eq_true p222
   replace q222 := eq_true q222
   have p223 : 0 ≤ (1 : Int) := (by omega)
   have q223 : 1 < (l1.length : Int) := zd
   obtain ⟨ad223, e223, hx223_0⟩ := Kd.qC2 HR1.out 1 p223 q223
   have hw223_0 := hx223_0
   (try rw [show ((1 : Int)).toNat = 1 from rfl] at hw223_0)
   (try simp only [Nat.reduceMul, Nat.reduceEqDiff, Go.Addr.add, ↓reduceIte] at hw223_0)
   obtain rfl : ad222 = ad223 := (by injection e223)
   (try simp only [show (1 : Int).toNat = 1 from rfl, Nat.reduceMul, Nat.reduceEqDiff, Go.Addr.add, ↓reduceIte] at hx223_0)
   have qi223 : (1 < l1.length) = True := eq_true (by omega)
   (try replace hx223_0 := zh hx223_0)
   replace p223 := eq_true p223
   replace q223 := eq_true q223
   refine qEA (n := 12) (S := fun w' => w'.cell? ad222 = some (.int .i64 (rd l1 0)) ∧ w'.cell? ⟨ad222.block, ad222.off + 1, none⟩ = some (.int .i64 (rd l1 1))) (ds := []) (bs 12 0) (by kernel_rfl) rfl rfl ⟨(zh hw222_0), (zh hw223_0)⟩ (fun hHeld => ?_); refine qCS qA5.tab18 qA5.bits18 (fun HT_ HW_ => ?_)
   generalize wc.drew = w61 at BK197 BK198 HB hx222_0 hx223_0 hHeld ⊢
   refine qBF (i := 0) (N := some 79) (bs 12 1) ?_
   refine qBF (i := 1) (N := some 80) (bs 12 3) ?_
   refine qBF (i := 3) (N := some 82) (bs 12 11) ?_
   refine qBF (i := 4) (N := some 83) (bs 12 27) ?_
   refine qDT (i := 2) (N := some 81) (bs 12 31) ?_
   refine qDT (i := 5) (N := some 84) (bs 12 63) ?_
   refine one_ (i := 6) (N := some 85) (bs 12 127) rfl rfl (qCR HT_.out (by kernel_rfl)) (by decide) (fun K hK => ?_)
   refine qEO Tryz.func145 (by kernel_rfl) rfl #[.int .i64 (rd l1 0), .int .i64 (rd l1 1)] (by rfl) rfl rfl (by (try simp only [List.map_toArray, List.map_cons, List.map_nil]); first | done | rfl | (simp only [List.length_drop, List.length_take]; rfl)) ?_
   with_reducible refine (qCQ.calls (rd l1 0) (rd l1 1) t224 true _ A59.out).mono ?_
   rintro e w' ⟨rfl, ⟨nd, rfl⟩⟩
   refine ⟨_, rfl, ?_⟩
   refine hK.out _ _ ⟨(zh hw222_0), (zh hw223_0)⟩ (fun hHeld => ?_)
   clear hK K
   refine qEB ?_
   refine qBF (i := 7) (N := some 78) (bs 12 255) ?_
   refine qBF (i := 8) (N := some 86) (bs 12 511) ?_
   refine qBF (i := 9) (N := some 87) (bs 12 1023) ?_
   refine qBF (i := 10) (N := some 12) (bs 12 2047) ?_
   refine qBF (i := 11) (N := some 13) (bs 12 4095) ?_
   refine qF9 (qDX HT_.out (by kernel_rfl)) ?_
   try go_wp2
   go_ret2
   exact ⟨zf, zb⟩
  replace c60 := Bool.eq_false_iff.mpr c60
  subst c60
  rw [zj] at H
  simp only [Option.some.injEq, Prod.mk.injEq] at H
  obtain ⟨rfl, rfl⟩ := H
  try go_wp2
  replace BK197 := qA0.mk (qB2 BK197.out)
  replace BK198 := qA0.mk (qB2 BK198.out)
  replace HB := qA0.mk (qAF HB.out)
  have p222 : 0 ≤ (0 : Int) := (by omega)
  have q222 : 0 < (l1.length : Int) := zd
  obtain ⟨ad222, e222, hx222_0⟩ := Kd.qC2 HR1.out 0 p222 q222
  have hw222_0 := hx222_0
  (try rw [show ((0 : Int)).toNat = 0 from rfl] at hw222_0)
  (try rw [Addr.add_zero'] at hw222_0)
  cases e222
  have qi222 : (0 < l1.length) = True := eq_true (by omega)
  (try rw [show ((0 : Int)).toNat = 0 from rfl] at hx222_0)
  (try rw [Addr.add_zero'] at hx222_0)
  (try replace hx222_0 := zh hx222_0)
  replace p222 := eq_true p222
  replace q222 := eq_true q222
  have p223 : 0 ≤ (1 : Int) := (by omega)
  have q223 : 1 < (l1.length : Int) := zd
  obtain ⟨ad223, e223, hx223_0⟩ := Kd.qC2 HR1.out 1 p223 q223
  have hw223_0 := hx223_0
  (try rw [show ((1 : Int)).toNat = 1 from rfl] at hw223_0)
  (try simp only [Nat.reduceMul, Nat.reduceEqDiff, Go.Addr.add, ↓reduceIte] at hw223_0)
  obtain rfl : ad222 = ad223 := (by injection e223)
  (try simp only [show (1 : Int).toNat = 1 from rfl, Nat.reduceMul, Nat.reduceEqDiff, Go.Addr.add, ↓reduceIte] at hx223_0)
  have qi223 : (1 < l1.length) = True := eq_true (by omega)
  (try replace hx223_0 := zh hx223_0)
  replace p223 := eq_true p223
  replace q223 := eq_true q223
  refine qEA (n := 12) (S := fun w' => w'.cell? ad222 = some (.int .i64 (rd l1 0)) ∧ w'.cell? ⟨ad222.block, ad222.off + 1, none⟩ = some (.int .i64 (rd l1 1))) (ds := []) (bs 12 0) (by kernel_rfl) rfl rfl ⟨(zh hw222_0), (zh hw223_0)⟩ (fun hHeld => ?_); refine qCS qA5.tab18 qA5.bits18 (fun HT_ HW_ => ?_)
  generalize wc.drew = w62 at BK197 BK198 HB hx222_0 hx223_0 hHeld ⊢
  refine qBF (i := 0) (N := some 79) (bs 12 1) ?_
  refine qBF (i := 1) (N := some 80) (bs 12 3) ?_
  refine qBF (i := 3) (N := some 82) (bs 12 11) ?_
  refine qBF (i := 4) (N := some 83) (bs 12 27) ?_
  refine qDT (i := 2) (N := some 81) (bs 12 31) ?_
  refine qDT (i := 5) (N := some 84) (bs 12 63) ?_
  refine one_ (i := 6) (N := some 85) (bs 12 127) rfl rfl (qCR HT_.out (by kernel_rfl)) (by decide) (fun K hK => ?_)
  refine qEO Tryz.func145 (by kernel_rfl) rfl #[.int .i64 (rd l1 0), .int .i64 (rd l1 1)] (by rfl) rfl rfl (by (try simp only [List.map_toArray, List.map_cons, List.map_nil]); first | done | rfl | (simp only [List.length_drop, List.length_take]; rfl)) ?_
  with_reducible refine (qCQ.calls (rd l1 0) (rd l1 1) t224 false _ A59.out).mono ?_
  rintro e w' ⟨rfl, ⟨nd, rfl⟩⟩
  refine ⟨_, rfl, ?_⟩
  refine hK.out _ _ ⟨(zh hw222_0), (zh hw223_0)⟩ (fun hHeld => ?_)
  clear hK K
  refine qEB ?_
  refine qBF (i := 7) (N := some 78) (bs 12 255) ?_
  refine qBF (i := 8) (N := some 86) (bs 12 511) ?_
  refine qBF (i := 9) (N := some 87) (bs 12 1023) ?_
  refine qBF (i := 10) (N := some 12) (bs 12 2047) ?_
  refine qBF (i := 11) (N := some 13) (bs 12 4095) ?_
  refine qF9 (qDX HT_.out (by kernel_rfl)) ?_
  try go_wp2
  go_ret2
  exact ⟨zf, zb⟩
 replace c56 := Bool.eq_false_iff.mpr c56
 subst c56
 rw [zj] at H
 have HC63 := qA0.mk H
 clear H
 go_upto_if 94 with (fail)
 go_cut [94] (fun v94 wc => ∃ (kq : Nat) (x94_62 : Bool), v94 = .bool x94_62 ∧ qA0 (qA5.j3 kq l1 a0_0 x94_62 a0_0 l0_1 a0_2 a0_3 a0_4 a2_0 a2_1 a2_2 a2_3 l2_4 = some (r1, r2)) ∧ qA0 (kq ≤ kj53) ∧ qA0 (wc.heap[gb197]? = some (.cells #[.int .i64 a0_0, (.slice A0_1 l0_1.length c0_1), .int .i64 a0_2, .int .i64 a0_3, .string a0_4] 66 (0, 0))) ∧ qA0 (wc.heap[gb198]? = some (.cells #[.string a2_0, .int .i64 a2_1, .int .i64 a2_2, .bool a2_3, (.slice A2_4 l2_4.length c2_4)] 95 (0, 0))) ∧ qA0 (Below w.heap.size w wc))
 case first =>
  have H := HC63.out
  clear HC63
  by_cases c64 : a0_0 = 10
  rotate_left
  ·rw [if_neg c64] at H
   have ⟨c64b0, c64b1⟩ := zn c64
   (first | rw [c64b0] | (simp only [qC9, qCB]; rw [c64b0]) | skip)
   have H' := qA0.mk H
   clear H
   go_wp2
   go_meet
   case rel => exact ⟨_, ((a0_0 == 11)), zs, H', ⟨by have := HJ18.out; have := HJ44.out; have := HJ53.out; first | omega | exact Nat.le_refl _⟩, ⟨zk BK197⟩, ⟨zk BK198⟩, ⟨zb⟩⟩
  rw [if_pos c64] at H
  have ⟨c64b0, c64b1⟩ := ze c64
  clear c64
  (first | rw [c64b0] | (simp only [qC9, qCB]; rw [c64b0]) | skip)
  have H' := qA0.mk H
  clear H
  go_wp2
  go_meet
  case rel => exact ⟨_, ((a0_0 == 10)), zs, H', ⟨by have := HJ18.out; have := HJ44.out; have := HJ53.out; first | omega | exact Nat.le_refl _⟩, ⟨zk BK197⟩, ⟨zk BK198⟩, ⟨zb⟩⟩
 clear HC63
 obtain ⟨kq, x94_62, rfl, HA, HJ62, BK197, BK198, HB⟩ := hcut
 obtain _ | kj62 := kq
 ·exact absurd HA.out (by simp [qA5.j3])
 have H := HA.out
 clear HA
 simp only [qA5.j3] at H
 by_cases c65 : x94_62 = true
 ·subst c65
  rw [if_pos rfl] at H
  by_cases c66 : 0 < (l1.length : Int)
  rotate_left
  ·rw [if_neg c66] at H
   cases H
  rw [if_pos c66] at H
  have c66b0 := decide_eq_true c66
  have c66b1 : decide (0 < l1.length) = true := decide_eq_true (by omega)
  clear c66
  by_cases c67 : 1 < (l1.length : Int)
  rotate_left
  ·rw [if_neg c67] at H
   cases H
  rw [if_pos c67] at H
  have c67b0 := decide_eq_true c67
  have c67b1 : decide (1 < l1.length) = true := decide_eq_true (by omega)
  clear c67
  replace H := zi H
  obtain ⟨⟨t228, t229⟩, A680, H⟩ := H
  replace H : (some (t228, t229)) = some (r1, r2) := H
  have A68 := qA0.mk A680
  clear A680
  simp only [Option.some.injEq, Prod.mk.injEq] at H
  obtain ⟨rfl, rfl⟩ := H
  try go_wp2
  replace BK197 := qA0.mk (qB2 BK197.out)
  replace BK198 := qA0.mk (qB2 BK198.out)
  replace HB := qA0.mk (qAF HB.out)
  have p226 : 0 ≤ (0 : Int) := (by omega)
  have q226 : 0 < (l1.length : Int) := zd
  obtain ⟨ad226, e226, hx226_0⟩ := Kd.qC2 HR1.out 0 p226 q226
  have hw226_0 := hx226_0
  (try rw [show ((0 : Int)).toNat = 0 from rfl] at hw226_0)
  (try rw [Addr.add_zero'] at hw226_0)
  cases e226
  have qi226 : (0 < l1.length) = True := eq_true (by omega)
  (try rw [show ((0 : Int)).toNat = 0 from rfl] at hx226_0)
  (try rw [Addr.add_zero'] at hx226_0)
  (try replace hx226_0 := zh hx226_0)
  replace p226 := eq_true p226
  replace q226 := eq_true q226
  have p227 : 0 ≤ (1 : Int) := (by omega)
  have q227 : 1 < (l1.length : Int) := zd
  obtain ⟨ad227, e227, hx227_0⟩ := Kd.qC2 HR1.out 1 p227 q227
  have hw227_0 := hx227_0
  (try rw [show ((1 : Int)).toNat = 1 from rfl] at hw227_0)
  (try simp only [Nat.reduceMul, Nat.reduceEqDiff, Go.Addr.add, ↓reduceIte] at hw227_0)
  obtain rfl : ad226 = ad227 := (by injection e227)
  (try simp only [show (1 : Int).toNat = 1 from rfl, Nat.reduceMul, Nat.reduceEqDiff, Go.Addr.add, ↓reduceIte] at hx227_0)
  have qi227 : (1 < l1.length) = True := eq_true (by omega)
  (try replace hx227_0 := zh hx227_0)
  replace p227 := eq_true p227
  replace q227 := eq_true q227
  refine qEA (n := 13) (S := fun w' => w'.cell? ⟨gb197, 0, none⟩ = some (.int .i64 a0_0) ∧ w'.cell? ⟨gb197, 1, none⟩ = some (.slice A0_1 l0_1.length c0_1) ∧ w'.cell? ⟨gb197, 2, none⟩ = some (.int .i64 a0_2) ∧ w'.cell? ⟨gb197, 3, none⟩ = some (.int .i64 a0_3) ∧ w'.cell? ⟨gb197, 4, none⟩ = some (.string a0_4) ∧ w'.cell? ad226 = some (.int .i64 (rd l1 0)) ∧ w'.cell? ⟨ad226.block, ad226.off + 1, none⟩ = some (.int .i64 (rd l1 1))) (ds := []) (bs 13 0) (by kernel_rfl) rfl rfl ⟨(qA1 BK197.out 0).trans rfl, (qA1 BK197.out 1).trans rfl, (qA1 BK197.out 2).trans rfl, (qA1 BK197.out 3).trans rfl, (qA1 BK197.out 4).trans rfl, (zh hw226_0), (zh hw227_0)⟩ (fun hHeld => ?_); refine qCS qA5.tab22 qA5.bits22 (fun HT_ HW_ => ?_)
  generalize wc.drew = w69 at BK197 BK198 HB hx226_0 hx227_0 hHeld ⊢
  refine qBF (i := 0) (N := some 97) (bs 13 1) ?_
  refine qBF (i := 2) (N := some 99) (bs 13 5) ?_
  refine qBF (i := 3) (N := some 100) (bs 13 13) ?_
  refine qBF (i := 5) (N := some 102) (bs 13 45) ?_
  refine qBF (i := 6) (N := some 103) (bs 13 109) ?_
  refine qDT (i := 1) (N := some 98) (bs 13 111) ?_
  refine qDT (i := 4) (N := some 101) (bs 13 127) ?_
  refine qDT (i := 7) (N := some 104) (bs 13 255) ?_
  refine one_ (i := 8) (N := some 105) (bs 13 511) rfl rfl (qCR HT_.out (by kernel_rfl)) (by decide) (fun K hK => ?_)
  refine qEO Tryz.func146 (by kernel_rfl) rfl #[.int .i64 a0_0, .int .i64 (rd l1 0), .int .i64 (rd l1 1)] (by rfl) rfl rfl (by (try simp only [List.map_toArray, List.map_cons, List.map_nil]); first | done | rfl | (simp only [List.length_drop, List.length_take]; rfl)) ?_
  with_reducible refine (qB0.calls kj62 a0_0 (rd l1 0) (rd l1 1) t228 t229 _ A68.out).mono ?_
  rintro e w' ⟨rfl, ⟨nd, rfl⟩⟩
  refine ⟨_, rfl, ?_⟩
  refine hK.out _ _ ⟨(qA1 BK197.out 0).trans rfl, (qA1 BK197.out 1).trans rfl, (qA1 BK197.out 2).trans rfl, (qA1 BK197.out 3).trans rfl, (qA1 BK197.out 4).trans rfl, (zh hw226_0), (zh hw227_0)⟩ (fun hHeld => ?_)
  clear hK K
  refine qEB ?_
  refine qBF (i := 9) (N := some 106) (bs 13 1023) ?_
  refine qBF (i := 10) (N := some 107) (bs 13 2047) ?_
  refine qBF (i := 11) (N := some 6) (bs 13 4095) ?_
  refine qBF (i := 12) (N := some 7) (bs 13 8191) ?_
  refine qF9 (qDX HT_.out (by kernel_rfl)) ?_
  try go_wp2
  go_ret2
  exact ⟨zf, zb⟩
 replace c65 := Bool.eq_false_iff.mpr c65
 subst c65
 rw [zj] at H
 by_cases c70 : a0_0 = 12
 ·rw [if_pos c70] at H
  have ⟨c70b0, c70b1⟩ := ze c70
  clear c70
  by_cases c71 : 0 < (l1.length : Int)
  rotate_left
  ·rw [if_neg c71] at H
   cases H
  rw [if_pos c71] at H
  have c71b0 := decide_eq_true c71
  have c71b1 : decide (0 < l1.length) = true := decide_eq_true (by omega)
  clear c71
  by_cases c72 : 1 < (l1.length : Int)
  rotate_left
  ·rw [if_neg c72] at H
   cases H
  rw [if_pos c72] at H
  have c72b0 := decide_eq_true c72
  have c72b1 : decide (1 < l1.length) = true := decide_eq_true (by omega)
  clear c72
  replace H := zi H
  obtain ⟨⟨t232, t233⟩, A730, H⟩ := H
  replace H : (some (t232, t233)) = some (r1, r2) := H
  have A73 := qA0.mk A730
  clear A730
  simp only [Option.some.injEq, Prod.mk.injEq] at H
  obtain ⟨rfl, rfl⟩ := H
  try go_wp2
  replace BK197 := qA0.mk (qB2 BK197.out)
  replace BK198 := qA0.mk (qB2 BK198.out)
  replace HB := qA0.mk (qAF HB.out)
  have p230 : 0 ≤ (0 : Int) := (by omega)
  have q230 : 0 < (l1.length : Int) := zd
  obtain ⟨ad230, e230, hx230_0⟩ := Kd.qC2 HR1.out 0 p230 q230
  have hw230_0 := hx230_0
  (try rw [show ((0 : Int)).toNat = 0 from rfl] at hw230_0)
  (try rw [Addr.add_zero'] at hw230_0)
  cases e230
  have qi230 : (0 < l1.length) = True := eq_true (by omega)
  (try rw [show ((0 : Int)).toNat = 0 from rfl] at hx230_0)
  (try rw [Addr.add_zero'] at hx230_0)
  (try replace hx230_0 := zh hx230_0)
  replace p230 := eq_true p230
  replace q230 := eq_true q230
  have p231 : 0 ≤ (1 : Int) := (by omega)
  have q231 : 1 < (l1.length : Int) := zd
  obtain ⟨ad231, e231, hx231_0⟩ := Kd.qC2 HR1.out 1 p231 q231
  have hw231_0 := hx231_0
  (try rw [show ((1 : Int)).toNat = 1 from rfl] at hw231_0)
  (try simp only [Nat.reduceMul, Nat.reduceEqDiff, Go.Addr.add, ↓reduceIte] at hw231_0)
  obtain rfl : ad230 = ad231 := (by injection e231)
  (try simp only [show (1 : Int).toNat = 1 from rfl, Nat.reduceMul, Nat.reduceEqDiff, Go.Addr.add, ↓reduceIte] at hx231_0)
  have qi231 : (1 < l1.length) = True := eq_true (by omega)
  (try replace hx231_0 := zh hx231_0)
  replace p231 := eq_true p231
  replace q231 := eq_true q231
  refine qEA (n := 11) (S := fun w' => w'.cell? ad230 = some (.int .i64 (rd l1 0)) ∧ w'.cell? ⟨ad230.block, ad230.off + 1, none⟩ = some (.int .i64 (rd l1 1))) (ds := []) (bs 11 0) (by kernel_rfl) rfl rfl ⟨(zh hw230_0), (zh hw231_0)⟩ (fun hHeld => ?_); refine qCS qA5.tab24 qA5.bits24 (fun HT_ HW_ => ?_)
  generalize wc.drew = w74 at BK197 BK198 HB hx230_0 hx231_0 hHeld ⊢
  refine qBF (i := 0) (N := some 110) (bs 11 1) ?_
  refine qBF (i := 1) (N := some 111) (bs 11 3) ?_
  refine qBF (i := 3) (N := some 113) (bs 11 11) ?_
  refine qBF (i := 4) (N := some 114) (bs 11 27) ?_
  refine qDT (i := 2) (N := some 112) (bs 11 31) ?_
  refine qDT (i := 5) (N := some 115) (bs 11 63) ?_
  refine one_ (i := 6) (N := some 116) (bs 11 127) rfl rfl (qCR HT_.out (by kernel_rfl)) (by decide) (fun K hK => ?_)
  refine qEO Tryz.func147 (by kernel_rfl) rfl #[.int .i64 (rd l1 0), .int .i64 (rd l1 1)] (by rfl) rfl rfl (by (try simp only [List.map_toArray, List.map_cons, List.map_nil]); first | done | rfl | (simp only [List.length_drop, List.length_take]; rfl)) ?_
  with_reducible refine (qAM.calls kj62 (rd l1 0) (rd l1 1) t232 t233 _ A73.out).mono ?_
  rintro e w75 ⟨rfl, hb⟩
  refine ⟨_, rfl, ?_⟩
  replace BK197 := zK BK197 hb
  replace BK198 := zK BK198 hb
  replace HB := zB hb
  (try clear hb)
  (try clear hb2)
  (try clear hk)
  (try clear hi)
  refine hK.out _ _ ⟨(zh hw230_0), (zh hw231_0)⟩ (fun hHeld => ?_)
  clear hK K
  refine qEB ?_
  refine qBF (i := 7) (N := some 117) (bs 11 255) ?_
  refine qBF (i := 8) (N := some 118) (bs 11 511) ?_
  refine qBF (i := 9) (N := some 6) (bs 11 1023) ?_
  refine qBF (i := 10) (N := some 7) (bs 11 2047) ?_
  refine qF9 (qDX HT_.out (by kernel_rfl)) ?_
  try go_wp2
  go_ret2
  exact ⟨zf, zb⟩
 rw [if_neg c70] at H
 have ⟨c70b0, c70b1⟩ := zn c70
 by_cases c76 : a0_0 = 15
 ·rw [if_pos c76] at H
  have ⟨c76b0, c76b1⟩ := ze c76
  clear c76
  by_cases c77 : 1 < (l1.length : Int)
  rotate_left
  ·rw [if_neg c77] at H
   cases H
  rw [if_pos c77] at H
  have c77b0 := decide_eq_true c77
  have c77b1 : decide (1 < l1.length) = true := decide_eq_true (by omega)
  clear c77
  by_cases c78 : 2 < (l1.length : Int)
  rotate_left
  ·rw [if_neg c78] at H
   cases H
  rw [if_pos c78] at H
  have c78b0 := decide_eq_true c78
  have c78b1 : decide (2 < l1.length) = true := decide_eq_true (by omega)
  clear c78
  replace H := zi H
  obtain ⟨⟨t236, t237⟩, A790, H⟩ := H
  dsimp only at H
  have A79 := qA0.mk A790
  clear A790
  by_cases c80 : t237 = true
  rotate_left
  ·replace c80 := Bool.eq_false_iff.mpr c80
   subst c80
   rw [zj] at H
   simp only [Option.some.injEq, Prod.mk.injEq] at H
   obtain ⟨rfl, rfl⟩ := H
   try go_wp2
   replace BK197 := qA0.mk (qB2 BK197.out)
   replace BK198 := qA0.mk (qB2 BK198.out)
   replace HB := qA0.mk (qAF HB.out)
   have p234 : 0 ≤ (1 : Int) := (by omega)
   have q234 : 1 < (l1.length : Int) := zd
   obtain ⟨ad234, e234, hx234_0⟩ := Kd.qC2 HR1.out 1 p234 q234
   have hw234_0 := hx234_0
   (try rw [show ((1 : Int)).toNat = 1 from rfl] at hw234_0)
   (try simp only [Nat.reduceMul, Nat.reduceEqDiff, Go.Addr.add, ↓reduceIte] at hw234_0)
   cases e234
   (try simp only [show (1 : Int).toNat = 1 from rfl, Nat.reduceMul, Nat.reduceEqDiff, Go.Addr.add, ↓reduceIte] at hx234_0)
   have qi234 : (1 < l1.length) = True := eq_true (by omega)
   (try replace hx234_0 := zh hx234_0)
   replace p234 := eq_true p234
   replace q234 := eq_true q234
   have p235 : 0 ≤ (2 : Int) := (by omega)
   have q235 : 2 < (l1.length : Int) := zd
   obtain ⟨ad235, e235, hx235_0⟩ := Kd.qC2 HR1.out 2 p235 q235
   have hw235_0 := hx235_0
   (try rw [show ((2 : Int)).toNat = 2 from rfl] at hw235_0)
   (try simp only [Nat.reduceMul, Nat.reduceEqDiff, Go.Addr.add, ↓reduceIte] at hw235_0)
   obtain rfl : ad234 = ad235 := (by injection e235)
   (try simp only [show (2 : Int).toNat = 2 from rfl, Nat.reduceMul, Nat.reduceEqDiff, Go.Addr.add, ↓reduceIte] at hx235_0)
   have qi235 : (2 < l1.length) = True := eq_true (by omega)
   (try replace hx235_0 := zh hx235_0)
   replace p235 := eq_true p235
   replace q235 := eq_true q235
   refine qEA (n := 12) (S := fun w' => w'.cell? ⟨ad234.block, ad234.off + 1, none⟩ = some (.int .i64 (rd l1 1)) ∧ w'.cell? ⟨ad234.block, ad234.off + 2, none⟩ = some (.int .i64 (rd l1 2))) (ds := []) (bs 12 0) (by kernel_rfl) rfl rfl ⟨(zh hw234_0), (zh hw235_0)⟩ (fun hHeld => ?_); refine qCS qA5.tab26 qA5.bits26 (fun HT_ HW_ => ?_)
   generalize wc.drew = w87 at BK197 BK198 HB hx234_0 hx235_0 hHeld ⊢
   refine qBF (i := 0) (N := some 122) (bs 12 1) ?_
   refine qBF (i := 1) (N := some 123) (bs 12 3) ?_
   refine qBF (i := 3) (N := some 125) (bs 12 11) ?_
   refine qBF (i := 4) (N := some 126) (bs 12 27) ?_
   refine qDT (i := 2) (N := some 124) (bs 12 31) ?_
   refine qDT (i := 5) (N := some 127) (bs 12 63) ?_
   refine one_ (i := 6) (N := some 128) (bs 12 127) rfl rfl (qCR HT_.out (by kernel_rfl)) (by decide) (fun K hK => ?_)
   refine qEO Tryz.func145 (by kernel_rfl) rfl #[.int .i64 (rd l1 1), .int .i64 (rd l1 2)] (by rfl) rfl rfl (by (try simp only [List.map_toArray, List.map_cons, List.map_nil]); first | done | rfl | (simp only [List.length_drop, List.length_take]; rfl)) ?_
   with_reducible refine (qCQ.calls (rd l1 1) (rd l1 2) t236 false _ A79.out).mono ?_
   rintro e w' ⟨rfl, ⟨nd, rfl⟩⟩
   refine ⟨_, rfl, ?_⟩
   refine hK.out _ _ ⟨(zh hw234_0), (zh hw235_0)⟩ (fun hHeld => ?_)
   clear hK K
   refine qEB ?_
   refine qBF (i := 7) (N := some 121) (bs 12 255) ?_
   refine qBF (i := 8) (N := some 129) (bs 12 511) ?_
   refine qBF (i := 9) (N := some 130) (bs 12 1023) ?_
   refine qBF (i := 10) (N := some 14) (bs 12 2047) ?_
   refine qBF (i := 11) (N := some 15) (bs 12 4095) ?_
   refine qF9 (qDX HT_.out (by kernel_rfl)) ?_
   try go_wp2
   go_ret2
   exact ⟨zf, zb⟩
  subst c80
  rw [if_pos rfl] at H
  by_cases c81 : 0 < (l1.length : Int)
  rotate_left
  ·rw [if_neg c81] at H
   cases H
  rw [if_pos c81] at H
  have c81b0 := decide_eq_true c81
  have c81b1 : decide (0 < l1.length) = true := decide_eq_true (by omega)
  clear c81
  obtain ⟨y239, hy_⟩ : ∃ y_ : List Int, y_ = (([1] : List Int)) := ⟨_, rfl⟩
  replace H : ((qAD.f kj62 (rd l1 0) y239).bind fun t242 => (some (t236, t242))) = some (r1, r2) := zr
  have Ny239 := qA0.mk hy_
  clear hy_
  replace H := zi H
  obtain ⟨t242, A820, H⟩ := H
  have A82 := qA0.mk A820
  clear A820
  simp only [Option.some.injEq, Prod.mk.injEq] at H
  obtain ⟨rfl, rfl⟩ := H
  try go_wp2
  replace BK197 := qA0.mk (qB2 BK197.out)
  replace BK198 := qA0.mk (qB2 BK198.out)
  replace HB := qA0.mk (qAF HB.out)
  have p234 : 0 ≤ (1 : Int) := (by omega)
  have q234 : 1 < (l1.length : Int) := zd
  obtain ⟨ad234, e234, hx234_0⟩ := Kd.qC2 HR1.out 1 p234 q234
  have hw234_0 := hx234_0
  (try rw [show ((1 : Int)).toNat = 1 from rfl] at hw234_0)
  (try simp only [Nat.reduceMul, Nat.reduceEqDiff, Go.Addr.add, ↓reduceIte] at hw234_0)
  cases e234
  (try simp only [show (1 : Int).toNat = 1 from rfl, Nat.reduceMul, Nat.reduceEqDiff, Go.Addr.add, ↓reduceIte] at hx234_0)
  have qi234 : (1 < l1.length) = True := eq_true (by omega)
  (try replace hx234_0 := zh hx234_0)
  replace p234 := eq_true p234
  replace q234 := eq_true q234
  have p235 : 0 ≤ (2 : Int) := (by omega)
  have q235 : 2 < (l1.length : Int) := zd
  obtain ⟨ad235, e235, hx235_0⟩ := Kd.qC2 HR1.out 2 p235 q235
  have hw235_0 := hx235_0
  (try rw [show ((2 : Int)).toNat = 2 from rfl] at hw235_0)
  (try simp only [Nat.reduceMul, Nat.reduceEqDiff, Go.Addr.add, ↓reduceIte] at hw235_0)
  obtain rfl : ad234 = ad235 := (by injection e235)
  (try simp only [show (2 : Int).toNat = 2 from rfl, Nat.reduceMul, Nat.reduceEqDiff, Go.Addr.add, ↓reduceIte] at hx235_0)
  have qi235 : (2 < l1.length) = True := eq_true (by omega)
  (try replace hx235_0 := zh hx235_0)
  replace p235 := eq_true p235
  replace q235 := eq_true q235
  refine qEA (n := 12) (S := fun w' => w'.cell? ⟨ad234.block, ad234.off + 1, none⟩ = some (.int .i64 (rd l1 1)) ∧ w'.cell? ⟨ad234.block, ad234.off + 2, none⟩ = some (.int .i64 (rd l1 2))) (ds := []) (bs 12 0) (by kernel_rfl) rfl rfl ⟨(zh hw234_0), (zh hw235_0)⟩ (fun hHeld => ?_); refine qCS qA5.tab26 qA5.bits26 (fun HT_ HW_ => ?_)
  generalize wc.drew = w83 at BK197 BK198 HB hx234_0 hx235_0 hHeld ⊢
  refine qBF (i := 0) (N := some 122) (bs 12 1) ?_
  refine qBF (i := 1) (N := some 123) (bs 12 3) ?_
  refine qBF (i := 3) (N := some 125) (bs 12 11) ?_
  refine qBF (i := 4) (N := some 126) (bs 12 27) ?_
  refine qDT (i := 2) (N := some 124) (bs 12 31) ?_
  refine qDT (i := 5) (N := some 127) (bs 12 63) ?_
  refine one_ (i := 6) (N := some 128) (bs 12 127) rfl rfl (qCR HT_.out (by kernel_rfl)) (by decide) (fun K hK => ?_)
  refine qEO Tryz.func145 (by kernel_rfl) rfl #[.int .i64 (rd l1 1), .int .i64 (rd l1 2)] (by rfl) rfl rfl (by (try simp only [List.map_toArray, List.map_cons, List.map_nil]); first | done | rfl | (simp only [List.length_drop, List.length_take]; rfl)) ?_
  with_reducible refine (qCQ.calls (rd l1 1) (rd l1 2) t236 true _ A79.out).mono ?_
  rintro e w' ⟨rfl, ⟨nd, rfl⟩⟩
  refine ⟨_, rfl, ?_⟩
  refine hK.out _ _ ⟨(zh hw234_0), (zh hw235_0)⟩ (fun hHeld => ?_)
  clear hK K
  refine qEB ?_
  refine qBF (i := 7) (N := some 121) (bs 12 255) ?_
  refine qBF (i := 8) (N := some 129) (bs 12 511) ?_
  refine qBF (i := 9) (N := some 130) (bs 12 1023) ?_
  refine qBF (i := 10) (N := some 14) (bs 12 2047) ?_
  refine qBF (i := 11) (N := some 15) (bs 12 4095) ?_
  refine qF9 (qDX HT_.out (by kernel_rfl)) ?_
  have p238 : 0 ≤ (0 : Int) := (by omega)
  have q238 : 0 < (l1.length : Int) := zd
  obtain ⟨ad238, e238, hx238_0⟩ := Kd.qC2 HR1.out 0 p238 q238
  obtain rfl : ad234 = ad238 := (by injection e238)
  have qi238 : (0 < l1.length) = True := eq_true (by omega)
  (try rw [show ((0 : Int)).toNat = 0 from rfl] at hx238_0)
  (try rw [Addr.add_zero'] at hx238_0)
  (try replace hx238_0 := zh hx238_0)
  replace p238 := eq_true p238
  replace q238 := eq_true q238
  try go_wp2_with (first | ((with_reducible refine qA9 (N := 137) rfl ?_); (try (refine qBD (by rfl) ?_; dsimp only)); refine Kd.R_lit (Kd.int .i64) _ 3 ?hg (N := 137) ?hd (xs := ([1] : List Int)) (inner := [.int .i64 1]) (ok := fun _ => True) (okp := fun _ => True) ?hr ?hp (fun _ hk => hk) trivial (Below.refl _ _) (Nat.le_refl _) (by simp) ?_; (case hd => rfl); (case hg => rfl); (case hr => first | (go_simp; done) | (go_simp; rfl)); (case hp => exact (Reps.one (show Kd.M (Kd.int .i64) _ _ _ 1 [.int .i64 1] from rfl) (Reps.none _ _))); intro v240 w84 ho85 hb hg_ hnew_; clear hg_ hnew_; (first | rw [← Ny239.out] at ho85 | (simp only [Int.reduceToNat] at ho85; rw [← Ny239.out] at ho85)); have HO241 := qA0.mk (Kd.qCI ho85 (qAI zb)); replace BK197 := zK BK197 hb; replace BK198 := zK BK198 hb; replace HB := zB hb; clear hb ho85; obtain ⟨Ao86, co86, eo86⟩ := Kd.qBV HO241.out; subst eo86) | (go_at_call 144; (with_reducible refine (qAD.calls kj62 (rd l1 0) _ _ y239 t242 _ ?side1 ?side2 A82.out).mono ?_); (case side1 => repeat (first | exact (Kd.qB3 HO241.out).2.2 | refine sC ?_)); (case side2 => exact (Kd.qB3 HO241.out).2.1); rintro e w' ⟨rfl, ⟨nd, rfl⟩⟩))
  go_ret2
  exact ⟨zf, zb⟩
 rw [if_neg c76] at H
 have ⟨c76b0, c76b1⟩ := zn c76
 by_cases c88 : a0_0 = 16
 ·rw [if_pos c88] at H
  have ⟨c88b0, c88b1⟩ := ze c88
  clear c88
  by_cases c89 : 0 < (l1.length : Int)
  rotate_left
  ·rw [if_neg c89] at H
   cases H
  rw [if_pos c89] at H
  have c89b0 := decide_eq_true c89
  have c89b1 : decide (0 < l1.length) = true := decide_eq_true (by omega)
  clear c89
  obtain ⟨y244, hy_⟩ : ∃ y_ : List Int, y_ = (([a2_1] : List Int)) := ⟨_, rfl⟩
  replace H : ((qAD.f kj62 (rd l1 0) y244).bind fun t247 => (some (a2_2, t247))) = some (r1, r2) := zr
  have Ny244 := qA0.mk hy_
  clear hy_
  replace H := zi H
  obtain ⟨t247, A900, H⟩ := H
  have A90 := qA0.mk A900
  clear A900
  simp only [Option.some.injEq, Prod.mk.injEq] at H
  obtain ⟨rfl, rfl⟩ := H
  try go_wp2
  replace BK197 := qA0.mk (qB2 BK197.out)
  replace BK198 := qA0.mk (qB2 BK198.out)
  replace HB := qA0.mk (qAF HB.out)
  have p243 : 0 ≤ (0 : Int) := (by omega)
  have q243 : 0 < (l1.length : Int) := zd
  obtain ⟨ad243, e243, hx243_0⟩ := Kd.qC2 HR1.out 0 p243 q243
  have hw243_0 := hx243_0
  (try rw [show ((0 : Int)).toNat = 0 from rfl] at hw243_0)
  (try rw [Addr.add_zero'] at hw243_0)
  cases e243
  have qi243 : (0 < l1.length) = True := eq_true (by omega)
  (try rw [show ((0 : Int)).toNat = 0 from rfl] at hx243_0)
  (try rw [Addr.add_zero'] at hx243_0)
  (try replace hx243_0 := zh hx243_0)
  replace p243 := eq_true p243
  replace q243 := eq_true q243
  refine qEA (n := 11) (S := fun w' => w'.cell? ⟨gb198, 0, none⟩ = some (.string a2_0) ∧ w'.cell? ⟨gb198, 1, none⟩ = some (.int .i64 a2_1) ∧ w'.cell? ⟨gb198, 2, none⟩ = some (.int .i64 a2_2) ∧ w'.cell? ⟨gb198, 3, none⟩ = some (.bool a2_3) ∧ w'.cell? ⟨gb198, 4, none⟩ = some (.slice A2_4 l2_4.length c2_4) ∧ w'.cell? ad243 = some (.int .i64 (rd l1 0))) (ds := []) (bs 11 0) (by kernel_rfl) rfl rfl ⟨(qA1 BK198.out 0).trans rfl, (qA1 BK198.out 1).trans rfl, (qA1 BK198.out 2).trans rfl, (qA1 BK198.out 3).trans rfl, (qA1 BK198.out 4).trans rfl, (zh hw243_0)⟩ (fun hHeld => ?_); refine qCS qA5.tab29 qA5.bits29 (fun HT_ HW_ => ?_)
  generalize wc.drew = w91 at BK197 BK198 HB hx243_0 hHeld ⊢
  refine qBF (i := 0) (N := some 142) (bs 11 1) ?_
  refine qBF (i := 2) (N := some 144) (bs 11 5) ?_
  refine qBF (i := 3) (N := some 145) (bs 11 13) ?_
  refine qBF (i := 5) (N := some 147) (bs 11 45) ?_
  refine qDT (i := 1) (N := some 143) (bs 11 47) ?_
  refine qDT (i := 4) (N := some 146) (bs 11 63) ?_
  refine qDT (i := 6) (N := some 148) (bs 11 127) ?_
  refine one_ (i := 7) (N := some 149) (bs 11 255) rfl rfl (qCR HT_.out (by kernel_rfl)) (by decide) (fun K hK => ?_)
  refine Kd.R_lit_step (Kd.int .i64) _ 3 ?hg (N := 149) ?hd (xs := ([a2_1] : List Int)) (inner := [.int .i64 a2_1]) (ok := fun _ => True) (okp := fun _ => True) ?hr ?hp (fun _ hk => hk) trivial (Below.refl _ _) (Nat.le_refl _) (by simp) ?_; (case hd => rfl); (case hg => rfl); (case hr => first | (go_simp; done) | (go_simp; rfl)); (case hp => exact (Reps.one (show Kd.M (Kd.int .i64) _ _ _ a2_1 [.int .i64 a2_1] from rfl) (Reps.none _ _)))
  intro v245 w92 ho93 hb hg_ hnew_
  clear hg_ hnew_
  (first | rw [← Ny244.out] at ho93 | (simp only [Int.reduceToNat] at ho93; rw [← Ny244.out] at ho93))
  have HO246 := qA0.mk (Kd.qCI ho93 (qAI zb))
  replace BK197 := zK BK197 hb
  replace BK198 := zK BK198 hb
  replace HB := zB hb
  clear hb ho93
  obtain ⟨Ao94, co94, eo94⟩ := Kd.qBV HO246.out
  (first | subst eo94 | (injection eo94 with f1_ f2_ f3_; have f4_ := f1_.symm; have f5_ := f3_.symm; clear f1_ f2_ f3_; subst f4_; subst f5_))
  refine hK.out _ _ ⟨(qA1 BK198.out 0).trans rfl, (qA1 BK198.out 1).trans rfl, (qA1 BK198.out 2).trans rfl, (qA1 BK198.out 3).trans rfl, (qA1 BK198.out 4).trans rfl, (zh hw243_0)⟩ (fun hHeld => ?_)
  clear hK K
  refine qEB ?_
  refine one_ (i := 8) (N := some 150) (bs 11 511) rfl rfl (qCR HT_.out (by kernel_rfl)) (by decide) (fun K hK => ?_)
  refine qEO Tryz.func144 (by kernel_rfl) rfl #[.int .i64 (rd l1 0), .slice Ao94 y244.length co94] (by rfl) rfl rfl (by (try simp only [List.map_toArray, List.map_cons, List.map_nil]); first | done | rfl | (simp only [List.length_drop, List.length_take]; rfl)) ?_
  with_reducible refine (qAD.calls kj62 (rd l1 0) _ _ y244 t247 _ ?side1 ?side2 A90.out).mono ?_
  (case side1 => repeat (first | exact (Kd.qB3 HO246.out).2.2 | refine sC ?_))
  (case side2 => exact (Kd.qB3 HO246.out).2.1)
  rintro e w' ⟨rfl, ⟨nd, rfl⟩⟩
  refine ⟨_, rfl, ?_⟩
  refine hK.out _ _ ⟨(qA1 BK198.out 0).trans rfl, (qA1 BK198.out 1).trans rfl, (qA1 BK198.out 2).trans rfl, (qA1 BK198.out 3).trans rfl, (qA1 BK198.out 4).trans rfl, (zh hw243_0)⟩ (fun hHeld => ?_)
  clear hK K
  refine qEB ?_
  refine qBF (i := 9) (N := some 6) (bs 11 1023) ?_
  refine qBF (i := 10) (N := some 7) (bs 11 2047) ?_
  refine qF9 (qDX HT_.out (by kernel_rfl)) ?_
  try go_wp2
  go_ret2
  exact ⟨zf, zb⟩
 rw [if_neg c88] at H
 have ⟨c88b0, c88b1⟩ := zn c88
 by_cases c95 : a0_0 = 17
 ·rw [if_pos c95] at H
  have ⟨c95b0, c95b1⟩ := ze c95
  clear c95
  by_cases c96 : 0 < (l1.length : Int)
  rotate_left
  ·rw [if_neg c96] at H
   cases H
  rw [if_pos c96] at H
  have c96b0 := decide_eq_true c96
  have c96b1 : decide (0 < l1.length) = true := decide_eq_true (by omega)
  clear c96
  obtain ⟨y249, hy_⟩ : ∃ y_ : List Int, y_ = (([2] : List Int)) := ⟨_, rfl⟩
  replace H : ((qAD.f kj62 (rd l1 0) y249).bind fun t252 => (some (2, t252))) = some (r1, r2) := zr
  have Ny249 := qA0.mk hy_
  clear hy_
  replace H := zi H
  obtain ⟨t252, A970, H⟩ := H
  have A97 := qA0.mk A970
  clear A970
  simp only [Option.some.injEq, Prod.mk.injEq] at H
  obtain ⟨rfl, rfl⟩ := H
  have p248 : 0 ≤ (0 : Int) := (by omega)
  have q248 : 0 < (l1.length : Int) := zd
  obtain ⟨ad248, e248, hx248_0⟩ := Kd.qC2 HR1.out 0 p248 q248
  cases e248
  have qi248 : (0 < l1.length) = True := eq_true (by omega)
  (try rw [show ((0 : Int)).toNat = 0 from rfl] at hx248_0)
  (try rw [Addr.add_zero'] at hx248_0)
  (try replace hx248_0 := zh hx248_0)
  replace p248 := eq_true p248
  replace q248 := eq_true q248
  go_wp2_with (first | ((with_reducible refine qA9 (N := 156) rfl ?_); (try (refine qBD (by rfl) ?_; dsimp only)); refine Kd.R_lit (Kd.int .i64) _ 3 ?hg (N := 156) ?hd (xs := ([2] : List Int)) (inner := [.int .i64 2]) (ok := fun _ => True) (okp := fun _ => True) ?hr ?hp (fun _ hk => hk) trivial (Below.refl _ _) (Nat.le_refl _) (by simp) ?_; (case hd => rfl); (case hg => rfl); (case hr => first | (go_simp; done) | (go_simp; rfl)); (case hp => exact (Reps.one (show Kd.M (Kd.int .i64) _ _ _ 2 [.int .i64 2] from rfl) (Reps.none _ _))); intro v250 w98 ho99 hb hg_ hnew_; clear hg_ hnew_; (first | rw [← Ny249.out] at ho99 | (simp only [Int.reduceToNat] at ho99; rw [← Ny249.out] at ho99)); have HO251 := qA0.mk (Kd.qCI ho99 (qAI zb)); replace BK197 := zK BK197 hb; replace BK198 := zK BK198 hb; replace HB := zB hb; clear hb ho99; obtain ⟨Ao100, co100, eo100⟩ := Kd.qBV HO251.out; subst eo100) | ((with_reducible refine qA6 (f := 144) rfl ?_); refine qBP (some 157) Tryz.func144 #[.int .i64 (rd l1 0), .slice Ao100 y249.length co100] ?_; (with_reducible refine (qAD.calls kj62 (rd l1 0) _ _ y249 t252 _ ?side1 ?side2 A97.out).mono ?_); (case side1 => repeat (first | exact (Kd.qB3 HO251.out).2.2 | refine sC ?_)); (case side2 => exact (Kd.qB3 HO251.out).2.1); rintro e w' ⟨rfl, ⟨nd, rfl⟩⟩; refine ⟨_, rfl, ?_⟩))
  go_ret2
  exact ⟨zf, zb⟩
 rw [if_neg c95] at H
 have ⟨c95b0, c95b1⟩ := zn c95
 by_cases c101 : 0 < (l1.length : Int)
 rotate_left
 ·rw [if_neg c101] at H
  cases H
 rw [if_pos c101] at H
 have c101b0 := decide_eq_true c101
 have c101b1 : decide (0 < l1.length) = true := decide_eq_true (by omega)
 clear c101
 obtain ⟨y254, hy_⟩ : ∃ y_ : List Int, y_ = (([4] : List Int)) := ⟨_, rfl⟩
 replace H : ((qAD.f kj62 (rd l1 0) y254).bind fun t257 => (if t257 = true then (if 1 < (l1.length : Int) then ((qAD.f kj62 (rd l1 1) (([4] : List Int))).bind fun t262 => (some (5, t262))) else (none)) else (some (5, false)))) = some (r1, r2) := zr
 have Ny254 := qA0.mk hy_
 clear hy_
 replace H := zi H
 obtain ⟨t257, A1020, H⟩ := H
 have A102 := qA0.mk A1020
 clear A1020
 by_cases c103 : t257 = true
 rotate_left
 ·replace c103 := Bool.eq_false_iff.mpr c103
  subst c103
  rw [zj] at H
  simp only [Option.some.injEq, Prod.mk.injEq] at H
  obtain ⟨rfl, rfl⟩ := H
  have p253 : 0 ≤ (0 : Int) := (by omega)
  have q253 : 0 < (l1.length : Int) := zd
  obtain ⟨ad253, e253, hx253_0⟩ := Kd.qC2 HR1.out 0 p253 q253
  cases e253
  have qi253 : (0 < l1.length) = True := eq_true (by omega)
  (try rw [show ((0 : Int)).toNat = 0 from rfl] at hx253_0)
  (try rw [Addr.add_zero'] at hx253_0)
  (try replace hx253_0 := zh hx253_0)
  replace p253 := eq_true p253
  replace q253 := eq_true q253
  go_wp2_with (first | ((with_reducible refine qA9 (N := 161) rfl ?_); (try (refine qBD (by rfl) ?_; dsimp only)); refine Kd.R_lit (Kd.int .i64) _ 3 ?hg (N := 161) ?hd (xs := ([4] : List Int)) (inner := [.int .i64 4]) (ok := fun _ => True) (okp := fun _ => True) ?hr ?hp (fun _ hk => hk) trivial (Below.refl _ _) (Nat.le_refl _) (by simp) ?_; (case hd => rfl); (case hg => rfl); (case hr => first | (go_simp; done) | (go_simp; rfl)); (case hp => exact (Reps.one (show Kd.M (Kd.int .i64) _ _ _ 4 [.int .i64 4] from rfl) (Reps.none _ _))); intro v255 w112 ho113 hb hg_ hnew_; clear hg_ hnew_; (first | rw [← Ny254.out] at ho113 | (simp only [Int.reduceToNat] at ho113; rw [← Ny254.out] at ho113)); have HO256 := qA0.mk (Kd.qCI ho113 (qAI zb)); replace BK197 := zK BK197 hb; replace BK198 := zK BK198 hb; replace HB := zB hb; clear hb ho113; obtain ⟨Ao114, co114, eo114⟩ := Kd.qBV HO256.out; subst eo114) | ((with_reducible refine qA6 (f := 144) rfl ?_); refine qBP (some 162) Tryz.func144 #[.int .i64 (rd l1 0), .slice Ao114 y254.length co114] ?_; (with_reducible refine (qAD.calls kj62 (rd l1 0) _ _ y254 false _ ?side1 ?side2 A102.out).mono ?_); (case side1 => repeat (first | exact (Kd.qB3 HO256.out).2.2 | refine sC ?_)); (case side2 => exact (Kd.qB3 HO256.out).2.1); rintro e w' ⟨rfl, ⟨nd, rfl⟩⟩; refine ⟨_, rfl, ?_⟩))
  go_ret2
  exact ⟨zf, zb⟩
 subst c103
 rw [if_pos rfl] at H
 by_cases c104 : 1 < (l1.length : Int)
 rotate_left
 ·rw [if_neg c104] at H
  cases H
 rw [if_pos c104] at H
 have c104b0 := decide_eq_true c104
 have c104b1 : decide (1 < l1.length) = true := decide_eq_true (by omega)
 clear c104
 obtain ⟨y259, hy_⟩ : ∃ y_ : List Int, y_ = (([4] : List Int)) := ⟨_, rfl⟩
 replace H : ((qAD.f kj62 (rd l1 1) y259).bind fun t262 => (some (5, t262))) = some (r1, r2) := zr
 have Ny259 := qA0.mk hy_
 clear hy_
 replace H := zi H
 obtain ⟨t262, A1050, H⟩ := H
 have A105 := qA0.mk A1050
 clear A1050
 simp only [Option.some.injEq, Prod.mk.injEq] at H
 obtain ⟨rfl, rfl⟩ := H
 have p253 : 0 ≤ (0 : Int) := (by omega)
 have q253 : 0 < (l1.length : Int) := zd
 obtain ⟨ad253, e253, hx253_0⟩ := Kd.qC2 HR1.out 0 p253 q253
 cases e253
 have qi253 : (0 < l1.length) = True := eq_true (by omega)
 (try rw [show ((0 : Int)).toNat = 0 from rfl] at hx253_0)
 (try rw [Addr.add_zero'] at hx253_0)
 (try replace hx253_0 := zh hx253_0)
 replace p253 := eq_true p253
 replace q253 := eq_true q253
 go_wp2_with (first | ((with_reducible refine qA9 (N := 161) rfl ?_); (try (refine qBD (by rfl) ?_; dsimp only)); refine Kd.R_lit (Kd.int .i64) _ 3 ?hg (N := 161) ?hd (xs := ([4] : List Int)) (inner := [.int .i64 4]) (ok := fun _ => True) (okp := fun _ => True) ?hr ?hp (fun _ hk => hk) trivial (Below.refl _ _) (Nat.le_refl _) (by simp) ?_; (case hd => rfl); (case hg => rfl); (case hr => first | (go_simp; done) | (go_simp; rfl)); (case hp => exact (Reps.one (show Kd.M (Kd.int .i64) _ _ _ 4 [.int .i64 4] from rfl) (Reps.none _ _))); intro v255 w106 ho107 hb hg_ hnew_; clear hg_ hnew_; (first | rw [← Ny254.out] at ho107 | (simp only [Int.reduceToNat] at ho107; rw [← Ny254.out] at ho107)); have HO256 := qA0.mk (Kd.qCI ho107 (qAI zb)); replace BK197 := zK BK197 hb; replace BK198 := zK BK198 hb; replace HB := zB hb; clear hb ho107; obtain ⟨Ao108, co108, eo108⟩ := Kd.qBV HO256.out; subst eo108) | ((with_reducible refine qA6 (f := 144) rfl ?_); refine qBP (some 162) Tryz.func144 #[.int .i64 (rd l1 0), .slice Ao108 y254.length co108] ?_; (with_reducible refine (qAD.calls kj62 (rd l1 0) _ _ y254 true _ ?side1 ?side2 A102.out).mono ?_); (case side1 => repeat (first | exact (Kd.qB3 HO256.out).2.2 | refine sC ?_)); (case side2 => exact (Kd.qB3 HO256.out).2.1); rintro e w' ⟨rfl, ⟨nd, rfl⟩⟩; refine ⟨_, rfl, ?_⟩; have p258 : 0 ≤ (1 : Int) := (by omega); have q258 : 1 < (l1.length : Int) := zd; obtain ⟨ad258, e258, hx258_0⟩ := Kd.qC2 HR1.out 1 p258 q258; obtain rfl : ad253 = ad258 := (by injection e258); (try simp only [show (1 : Int).toNat = 1 from rfl, Nat.reduceMul, Nat.reduceEqDiff, Go.Addr.add, ↓reduceIte] at hx258_0); have qi258 : (1 < l1.length) = True := eq_true (by omega); (try rw [show ((1 : Int)).toNat = 1 from rfl] at hx258_0); replace hx258_0 := zh hx258_0; replace p258 := eq_true p258; replace q258 := eq_true q258) | ((with_reducible refine qA9 (N := 167) rfl ?_); (try (refine qBD (by rfl) ?_; dsimp only)); refine Kd.R_lit (Kd.int .i64) _ 3 ?hg (N := 167) ?hd (xs := ([4] : List Int)) (inner := [.int .i64 4]) (ok := fun _ => True) (okp := fun _ => True) ?hr ?hp (fun _ hk => hk) trivial (Below.refl _ _) (Nat.le_refl _) (by simp) ?_; (case hd => rfl); (case hg => rfl); (case hr => first | (go_simp; done) | (go_simp; rfl)); (case hp => exact (Reps.one (show Kd.M (Kd.int .i64) _ _ _ 4 [.int .i64 4] from rfl) (Reps.none _ _))); intro v260 w109 ho110 hb hg_ hnew_; clear hg_ hnew_; (first | rw [← Ny259.out] at ho110 | (simp only [Int.reduceToNat] at ho110; rw [← Ny259.out] at ho110)); have HO261 := qA0.mk (Kd.qCI (Kd.R_new' ho110 (Kd.R_lt (by (with_reducible repeat (first | apply Kd.R_alloc | apply Kd.R_drewN | apply Kd.qEY)); exact HO256.out))) (qAI zb)); replace HO256 := qA0.mk (Kd.R_elder' (by (with_reducible repeat (first | apply Kd.R_alloc | apply Kd.R_drewN | apply Kd.qEY)); exact HO256.out) (Kd.R_base ho110) hb); replace BK197 := zK BK197 hb; replace BK198 := zK BK198 hb; replace HB := zB hb; clear hb ho110; obtain ⟨Ao111, co111, eo111⟩ := Kd.qBV HO261.out; subst eo111) | (go_at_call 144; (with_reducible refine (qAD.calls kj62 (rd l1 1) _ _ y259 t262 _ ?side1 ?side2 A105.out).mono ?_); (case side1 => repeat (first | exact (Kd.qB3 HO261.out).2.2 | refine sC ?_)); (case side2 => exact (Kd.qB3 HO261.out).2.1); rintro e w' ⟨rfl, ⟨nd, rfl⟩⟩))
 go_ret2
 exact ⟨zf, zb⟩
end
end Go.Proofs.YtpafpefealopoaaGreat.PPopMakes
end
