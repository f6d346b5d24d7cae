/- A part of the proof of PopMakes: texts that were printed, words, walks. No condition. -/
import Derived.Test.YtpafpefealopoaaGreatC1
import Derived.Test.YtpafpefealopoaaGreatC8
import Derived.Test.YtpafpefealopoaaGreatC9
import Derived.Test.YtpafpefealopoaaGreatC10
set_option linter.unusedVariables false
set_option linter.unusedSimpArgs false
section
namespace Go.Proofs.YtpafpefealopoaaGreat.PPopMakes
noncomputable section
open Go.RowKit Go.Proofs.YtpafpefealopoaaGreatW.PrintWords Go.Proofs.YtpafpefealopoaaGreatW.PrintLast Go.Proofs.YtpafpefealopoaaGreatW.PrintMore
set_option maxHeartbeats 8000000
set_option maxRecDepth 100000
def qD8.j0 : Nat → List (S76) → Int → Int → Bool → Int → List Int → List (S56) → Int → Option (Int × (List (S83)) × (List (S86)) × Int)
 | 0, _, _, _, _, _, _, _, _ => none
 | k + 1, x0, x2, x3, x23, x492000, x492001, x492002, x492003 => if x23 = true then (some (0, ([] : List (S83)), ([] : List (S86)), 1)) else ((qE6.f x2 x3).bind fun t494 => ((qC0.f k x0 x492000 x492001 x492002 x492003 t494).bind fun bt495 => (some (bt495.1, bt495.2.1, bt495.2.2, 0))))
def qD8.f (k : Nat) (l0 : List (S76)) (a1_0 : Int) (l1_1 : List Int) (l1_2 : List (S56)) (a1_3 : Int) (a2 : Int) (a3 : Int) : Option (Int × (List (S83)) × (List (S86)) × Int) := (qAV.f k l0 a1_0 l1_1 l1_2 a1_3).bind fun t493 => (if t493 = 0 then (if a3 < 0 then (qD8.j0 k l0 a2 a3 true a1_0 l1_1 l1_2 a1_3) else (qD8.j0 k l0 a2 a3 (decide (a3 ≥ 1000)) a1_0 l1_1 l1_2 a1_3)) else (some (0, ([] : List (S83)), ([] : List (S86)), t493)))
def qD8.T6 : Bool × List (List Nat × List Nat) := (true, [([], []), ([], []), ([], []), ([], []), ([2, 3], [2, 3]), ([0, 1, 4, 4], [0, 1, 4]), ([5, 5, 0, 1, 2, 3, 4, 5], [5]), ([6, 0, 1, 2, 3, 4, 5, 6], [])])
def qD8.B6 : List Nat := [0, 0, 0, 0, 12, 31, 63, 127]
theorem qD8.tab6 : rtab .any (opsOf Tryz.f9 6) = qD8.T6 := by kernel_rfl
theorem qD8.bits6 : qDW qD8.T6.2 qD8.B6 = true := by kernel_rfl
theorem qD8.calls (k : Nat) (A0 : Option Addr) (c0 : Nat) (l0 : List (S76)) (a1_0 : Int) (A1_1 : Option Addr) (c1_1 : Nat) (l1_1 : List Int) (A1_2 : Option Addr) (c1_2 : Nat) (l1_2 : List (S56)) (a1_3 : Int) (a2 : Int) (a3 : Int) (r1 : Int) (r2 : List (S83)) (r3 : List (S86)) (r4 : Int) (w : World) (hr0 : Kd.C k76 w A0 l0.length l0) (hc0 : l0.length ≤ c0) (hr1_1 : Kd.C (Kd.int .i64) w A1_1 l1_1.length l1_1) (hc1_1 : l1_1.length ≤ c1_1) (hr1_2 : Kd.C k56 w A1_2 l1_2.length l1_2) (hc1_2 : l1_2.length ≤ c1_2) (h : qD8.f k l0 a1_0 l1_1 l1_2 a1_3 a2 a3 = some (r1, r2, r3, r4)) :
  Calls Tryz.prog 9 #[.slice A0 l0.length c0, .agg #[.int .i64 a1_0, .slice A1_1 l1_1.length c1_1, .slice A1_2 l1_2.length c1_2, .int .i64 a1_3], .int .u64 a2, .int .i64 a3] w fun e w' => ∃ v1_ v2_ : Value, e = .returned (.tuple #[.agg #[.int .i64 r1, v1_, v2_], .int .i64 r4]) ∧ Kd.R k83 83 w' w.heap.size (fun _ => True) v1_ r2 ∧ Kd.R k86 86 w' w.heap.size (fun _ => True) v2_ r3 ∧ Below w.heap.size w w' := by
 have hu27 := Tryz.underlying27
 have hu35 := Tryz.underlying35
 have HR0 := qA0.mk hr0
 have HC0 := qA0.mk hc0
 clear hr0 hc0
 have HR1_1 := qA0.mk hr1_1
 have HC1_1 := qA0.mk hc1_1
 clear hr1_1 hc1_1
 have HR1_2 := qA0.mk hr1_2
 have HC1_2 := qA0.mk hc1_2
 clear hr1_2 hc1_2
 have HB := qA0.mk (Below.refl w.heap.size w)
 have H := h
 unfold qD8.f at H
 clear h
 replace H := zi H
 obtain ⟨t493, A50, H⟩ := H
 have A5 := qA0.mk A50
 clear A50
 by_cases c6 : t493 = 0
 rotate_left
 ·rw [if_neg c6] at H
  have ⟨c6b0, c6b1⟩ := zn c6
  simp only [Option.some.injEq, Prod.mk.injEq] at H
  obtain ⟨rfl, rfl, rfl, rfl⟩ := H
  go_enter Tryz.func9, Tryz.ntmps9
  go_wp2_with (first | ((with_reducible refine qA9 (N := 5) rfl ?_); refine boxZ 5 #[.int .i64 a1_0, .slice A1_1 l1_1.length c1_1, .slice A1_2 l1_2.length c1_2, .int .i64 a1_3] 27 ?_; intro gb491 hg w26 hbox hb; have BK491 := qA0.mk (hbox); have GW491 := zg w gb491; have GE491 := zg w gb491; replace HB := zB hb; clear hb hbox hg) | ((with_reducible refine qA9 (N := 8) rfl ?_); refine boxZ 8 #[.int .i64 0, .slice none 0 0, .slice none 0 0] 35 ?_; intro gb492 hg w27 hbox hb; have BK492 := qA0.mk (hbox); have GW492 := zg w gb492; have GE492 := zg w gb492; have NB491_492 := zl BK491 gb492; have NB492_491 := zu BK491 gb492; replace BK491 := zK BK491 hb; replace HB := zB hb; clear hb hbox hg; have hnb28 := NB491_492.out; have hnc28 := NB492_491.out; obtain ⟨hcz29_0, hcz29_1, hcz29_2, hcz29_3, hfz29_0, hfz29_1, hfz29_2, hfz29_3⟩ := bc4 BK491.out) | ((with_reducible refine qA6 (f := 6) rfl ?_); refine qBP (some 13) Tryz.func6 #[.slice A0 l0.length c0, .agg #[.int .i64 a1_0, .slice A1_1 l1_1.length c1_1, .slice A1_2 l1_2.length c1_2, .int .i64 a1_3]] ?_; (with_reducible refine (qAV.calls k _ _ l0 a1_0 _ _ l1_1 _ _ l1_2 a1_3 t493 _ ?side1 ?side2 ?side3 ?side4 ?side5 ?side6 A5.out).mono ?_); (case side1 => repeat (first | exact (Kd.qAE HR0.out HB.out) | refine sC ?_)); (case side2 => exact HC0.out); (case side3 => repeat (first | exact (Kd.qAE HR1_1.out HB.out) | refine sC ?_)); (case side4 => exact HC1_1.out); (case side5 => repeat (first | exact (Kd.qAE HR1_2.out HB.out) | refine sC ?_)); (case side6 => exact HC1_2.out); rintro e w30 ⟨rfl, hb⟩; refine ⟨_, rfl, ?_⟩; replace BK491 := zK BK491 hb; replace BK492 := zK BK492 hb; replace HB := zB hb; (try clear hb hk); (try clear hb); obtain ⟨hcz31_0, hcz31_1, hcz31_2, hfz31_0, hfz31_1, hfz31_2⟩ := bc3 BK492.out))
  refine bodyPost_ret (qDN rfl _ _ gb492 35 #[.int .i64 0, .slice none 0 0, .slice none 0 0] (0, 0) _ rfl (zp3 BK492) Tryz.underlying35 rfl (by kernel_rfl)) rfl ?_
  exact ⟨_, _, zf, by first | exact Kd.qEM _ _ _ _ _ | exact Kd.N_nil _ _ _ _ _ | exact Kd.qF4 _ _ _ _ _ | exact Kd.Q_nil _ _ _ _ _ | exact Kd.qFB _ _ _ _ _, by first | exact Kd.qEM _ _ _ _ _ | exact Kd.N_nil _ _ _ _ _ | exact Kd.qF4 _ _ _ _ _ | exact Kd.Q_nil _ _ _ _ _ | exact Kd.qFB _ _ _ _ _, zb⟩
 rw [if_pos c6] at H
 have ⟨c6b0, c6b1⟩ := ze c6
 clear c6
 have HC7 := qA0.mk H
 clear H
 go_enter Tryz.func9, Tryz.ntmps9
 go_upto_region 4 with (first | ((with_reducible refine qA9 (N := 5) rfl ?_); refine boxZ 5 #[.int .i64 a1_0, .slice A1_1 l1_1.length c1_1, .slice A1_2 l1_2.length c1_2, .int .i64 a1_3] 27 ?_; intro gb491 hg w8 hbox hb; have BK491 := qA0.mk (hbox); have GW491 := zg w gb491; have GE491 := zg w gb491; replace HB := zB hb; clear hb hbox hg) | ((with_reducible refine qA9 (N := 8) rfl ?_); refine boxZ 8 #[.int .i64 0, .slice none 0 0, .slice none 0 0] 35 ?_; intro gb492 hg w9 hbox hb; have BK492 := qA0.mk (hbox); have GW492 := zg w gb492; have GE492 := zg w gb492; have NB491_492 := zl BK491 gb492; have NB492_491 := zu BK491 gb492; replace BK491 := zK BK491 hb; replace HB := zB hb; clear hb hbox hg; have hnb10 := NB491_492.out; have hnc10 := NB492_491.out; obtain ⟨hcz11_0, hcz11_1, hcz11_2, hcz11_3, hfz11_0, hfz11_1, hfz11_2, hfz11_3⟩ := bc4 BK491.out) | ((with_reducible refine qA6 (f := 6) rfl ?_); refine qBP (some 13) Tryz.func6 #[.slice A0 l0.length c0, .agg #[.int .i64 a1_0, .slice A1_1 l1_1.length c1_1, .slice A1_2 l1_2.length c1_2, .int .i64 a1_3]] ?_; (with_reducible refine (qAV.calls k _ _ l0 a1_0 _ _ l1_1 _ _ l1_2 a1_3 t493 _ ?side1 ?side2 ?side3 ?side4 ?side5 ?side6 A5.out).mono ?_); (case side1 => repeat (first | exact (Kd.qAE HR0.out HB.out) | refine sC ?_)); (case side2 => exact HC0.out); (case side3 => repeat (first | exact (Kd.qAE HR1_1.out HB.out) | refine sC ?_)); (case side4 => exact HC1_1.out); (case side5 => repeat (first | exact (Kd.qAE HR1_2.out HB.out) | refine sC ?_)); (case side6 => exact HC1_2.out); rintro e w12 ⟨rfl, hb⟩; refine ⟨_, rfl, ?_⟩; replace BK491 := zK BK491 hb; replace BK492 := zK BK492 hb; replace HB := zB hb; (try clear hb hk); (try clear hb)))
 go_cut [23] (fun v23 wc => ∃ (kq : Nat) (x23_6 : Bool), v23 = .bool x23_6 ∧ qA0 (qD8.j0 kq l0 a2 a3 x23_6 a1_0 l1_1 l1_2 a1_3 = some (r1, r2, r3, r4)) ∧ qA0 (kq ≤ k) ∧ qA0 (wc.heap[gb491]? = some (.cells #[.int .i64 a1_0, (.slice A1_1 l1_1.length c1_1), (.slice A1_2 l1_2.length c1_2), .int .i64 a1_3] 27 (0, 0))) ∧ qA0 (wc.heap[gb492]? = some (.cells #[.int .i64 0, (.slice none 0 0), (.slice none 0 0)] 35 (0, 0))) ∧ qA0 (Below w.heap.size w wc))
 case first =>
  have H := HC7.out
  clear HC7
  by_cases c13 : a3 < 0
  rotate_left
  ·rw [if_neg c13] at H
   have c13b0 := decide_eq_false c13
   clear c13
   (first | rw [c13b0] | (simp only [qC9, qCB]; rw [c13b0]) | skip)
   have H' := qA0.mk H
   clear H
   go_wp2
   go_meet
   case rel => exact ⟨_, (decide (a3 ≥ 1000)), zs, H', ⟨by first | omega | exact Nat.le_refl _⟩, ⟨zk BK491⟩, ⟨zk BK492⟩, ⟨zb⟩⟩
  rw [if_pos c13] at H
  have c13b0 := decide_eq_true c13
  clear c13
  (first | rw [c13b0] | (simp only [qC9, qCB]; rw [c13b0]) | skip)
  have H' := qA0.mk H
  clear H
  go_wp2
  go_meet
  case rel => exact ⟨_, (true), zs, H', ⟨by first | omega | exact Nat.le_refl _⟩, ⟨zk BK491⟩, ⟨zk BK492⟩, ⟨zb⟩⟩
 clear HC7 c6b0 c6b1 hcz11_0 hcz11_1 hcz11_2 hcz11_3 hfz11_0 hfz11_1 hfz11_2 hfz11_3
 obtain ⟨kq, x23_6, rfl, HA, HJ6, BK491, BK492, HB⟩ := hcut
 obtain _ | kj6 := kq
 ·exact absurd HA.out (by simp [qD8.j0])
 have H := HA.out
 clear HA
 simp only [qD8.j0] at H
 by_cases c14 : x23_6 = true
 ·subst c14
  rw [if_pos rfl] at H
  simp only [Option.some.injEq, Prod.mk.injEq] at H
  obtain ⟨rfl, rfl, rfl, rfl⟩ := H
  have hnb15 := NB492_491.out
  have hnc15 := NB491_492.out
  obtain ⟨hcz16_0, hcz16_1, hcz16_2, hfz16_0, hfz16_1, hfz16_2⟩ := bc3 BK492.out
  go_wp2
  refine bodyPost_ret (qDN rfl _ _ gb492 35 #[.int .i64 0, .slice none 0 0, .slice none 0 0] (0, 0) _ rfl (zp3 BK492) Tryz.underlying35 rfl (by kernel_rfl)) rfl ?_
  exact ⟨_, _, zf, by first | exact Kd.qEM _ _ _ _ _ | exact Kd.N_nil _ _ _ _ _ | exact Kd.qF4 _ _ _ _ _ | exact Kd.Q_nil _ _ _ _ _ | exact Kd.qFB _ _ _ _ _, by first | exact Kd.qEM _ _ _ _ _ | exact Kd.N_nil _ _ _ _ _ | exact Kd.qF4 _ _ _ _ _ | exact Kd.Q_nil _ _ _ _ _ | exact Kd.qFB _ _ _ _ _, zb⟩
 replace c14 := Bool.eq_false_iff.mpr c14
 subst c14
 rw [zj] at H
 replace H := zi H
 obtain ⟨t494, A170, H⟩ := H
 have A17 := qA0.mk A170
 clear A170
 replace H := zi H
 obtain ⟨⟨t495, t496, t499⟩, A180, H⟩ := H
 dsimp only at H
 have A18 := qA0.mk A180
 clear A180
 simp only [Option.some.injEq, Prod.mk.injEq] at H
 obtain ⟨rfl, rfl, rfl, rfl⟩ := H
 try go_wp2
 replace BK491 := qA0.mk (qB2 BK491.out)
 replace BK492 := qA0.mk (qB2 BK492.out)
 replace HB := qA0.mk (qAF HB.out)
 refine qEA (n := 8) (S := fun w' => w'.cell? ⟨gb491, 0, none⟩ = some (.int .i64 a1_0) ∧ w'.cell? ⟨gb491, 1, none⟩ = some (.slice A1_1 l1_1.length c1_1) ∧ w'.cell? ⟨gb491, 2, none⟩ = some (.slice A1_2 l1_2.length c1_2) ∧ w'.cell? ⟨gb491, 3, none⟩ = some (.int .i64 a1_3)) (ds := []) (bs 8 0) (by kernel_rfl) rfl rfl ⟨(qA1 BK491.out 0).trans rfl, (qA1 BK491.out 1).trans rfl, (qA1 BK491.out 2).trans rfl, (qA1 BK491.out 3).trans rfl⟩ (fun hHeld => ?_); refine qCS qD8.tab6 qD8.bits6 (fun HT_ HW_ => ?_)
 generalize wc.drew = w19 at BK491 BK492 HB hHeld ⊢
 refine qBF (i := 0) (N := some 25) (bs 8 1) ?_
 refine qBF (i := 2) (N := some 27) (bs 8 5) ?_
 refine qBF (i := 3) (N := some 28) (bs 8 13) ?_
 refine qDT (i := 1) (N := some 26) (bs 8 15) ?_
 refine one_ (i := 4) (N := some 29) (bs 8 31) rfl rfl (qCR HT_.out (by kernel_rfl)) (by decide) (fun K hK => ?_)
 refine qEO Tryz.func29 (by kernel_rfl) rfl #[.int .u64 a2, .int .i64 a3] (by rfl) rfl rfl (by (try simp only [List.map_toArray, List.map_cons, List.map_nil]); first | done | rfl | (simp only [List.length_drop, List.length_take]; rfl)) ?_
 with_reducible refine (qE6.calls a2 a3 t494 _ A17.out).mono ?_
 rintro e w' ⟨rfl, ⟨nd, rfl⟩⟩
 refine ⟨_, rfl, ?_⟩
 refine hK.out _ _ ⟨(qA1 BK491.out 0).trans rfl, (qA1 BK491.out 1).trans rfl, (qA1 BK491.out 2).trans rfl, (qA1 BK491.out 3).trans rfl⟩ (fun hHeld => ?_)
 clear hK K
 refine qEB ?_
 refine one_ (i := 5) (N := some 30) (bs 8 63) rfl rfl (qCR HT_.out (by kernel_rfl)) (by decide) (fun K hK => ?_)
 refine qEO Tryz.func28 (by kernel_rfl) rfl #[.slice A0 l0.length c0, .agg #[.int .i64 a1_0, .slice A1_1 l1_1.length c1_1, .slice A1_2 l1_2.length c1_2, .int .i64 a1_3], .int .u64 t494] (by rfl) rfl rfl (by (try simp only [List.map_toArray, List.map_cons, List.map_nil]); first | done | rfl | (simp only [List.length_drop, List.length_take]; rfl)) ?_
 with_reducible refine (qC0.calls kj6 _ _ l0 a1_0 _ _ l1_1 _ _ l1_2 a1_3 t494 t495 t496 t499 _ ?side1 ?side2 ?side3 ?side4 ?side5 ?side6 A18.out).mono ?_
 (case side1 => repeat (first | exact (Kd.qAE HR0.out zb) | refine sC ?_))
 (case side2 => exact HC0.out)
 (case side3 => repeat (first | exact (Kd.qAE HR1_1.out zb) | refine sC ?_))
 (case side4 => exact HC1_1.out)
 (case side5 => repeat (first | exact (Kd.qAE HR1_2.out zb) | refine sC ?_))
 (case side6 => exact HC1_2.out)
 rintro e w20 ⟨v497, v500, rfl, ho0, ho1, hb⟩
 refine ⟨_, rfl, ?_⟩
 have HO498 := qA0.mk (Kd.qCI ho0 (qAI zb))
 have HO501 := qA0.mk (Kd.qCI ho1 (qAI zb))
 replace BK491 := zK BK491 hb
 replace BK492 := zK BK492 hb
 replace HB := zB hb
 (try clear hb)
 (try clear hb2)
 (try clear hk)
 (try clear hi)
 (try clear ho0)
 (try clear ho1)
 obtain ⟨Ao22, co22, eo22⟩ := Kd.qBV HO498.out
 (first | subst eo22 | (injection eo22 with f1_ f2_ f3_; have f4_ := f1_.symm; have f5_ := f3_.symm; clear f1_ f2_ f3_; subst f4_; subst f5_))
 obtain ⟨Ao24, co24, eo24⟩ := Kd.qBV HO501.out
 (first | subst eo24 | (injection eo24 with f1_ f2_ f3_; have f4_ := f1_.symm; have f5_ := f3_.symm; clear f1_ f2_ f3_; subst f4_; subst f5_))
 refine hK.out _ _ ⟨(qA1 BK491.out 0).trans rfl, (qA1 BK491.out 1).trans rfl, (qA1 BK491.out 2).trans rfl, (qA1 BK491.out 3).trans rfl⟩ (fun hHeld => ?_)
 clear hK K
 refine qEB ?_
 refine one_ (i := 6) (N := none) (bs 8 127) rfl rfl (qCR HT_.out (by kernel_rfl)) (by decide) (fun K hK => ?_)
 have hs21 : w20.cell? ⟨gb492, 0, none⟩ = some (.int .i64 0) := (qA1 BK492.out 0).trans rfl
 have hfs21 := qB1 BK492.out 0
 have hns21_0 := NB491_492.out
 have hms21_0 := NB492_491.out
 have hs23 : w20.cell? ⟨gb492, 1, none⟩ = some (.slice none 0 0) := (qA1 BK492.out 1).trans rfl
 have hfs23 := qB1 BK492.out 1
 have hns23_0 := NB491_492.out
 have hms23_0 := NB492_491.out
 have hs25 : w20.cell? ⟨gb492, 2, none⟩ = some (.slice none 0 0) := (qA1 BK492.out 2).trans rfl
 have hfs25 := qB1 BK492.out 2
 have hns25_0 := NB491_492.out
 have hms25_0 := NB492_491.out
 refine skip_ (w1 := ?_) (by rfl) rfl ?_ ?_
 rotate_left
 ·go_simp
  rfl
 refine hK.out _ _ ⟨((cell_far (p := ⟨gb492, _, none⟩) NB491_492.out _).trans (((cell_far (p := ⟨gb492, _, none⟩) NB491_492.out _).trans (((cell_far (p := ⟨gb492, _, none⟩) NB491_492.out _).trans (hHeld.1)))))), ((cell_far (p := ⟨gb492, _, none⟩) NB491_492.out _).trans (((cell_far (p := ⟨gb492, _, none⟩) NB491_492.out _).trans (((cell_far (p := ⟨gb492, _, none⟩) NB491_492.out _).trans (hHeld.2.1)))))), ((cell_far (p := ⟨gb492, _, none⟩) NB491_492.out _).trans (((cell_far (p := ⟨gb492, _, none⟩) NB491_492.out _).trans (((cell_far (p := ⟨gb492, _, none⟩) NB491_492.out _).trans (hHeld.2.2.1)))))), ((cell_far (p := ⟨gb492, _, none⟩) NB491_492.out _).trans (((cell_far (p := ⟨gb492, _, none⟩) NB491_492.out _).trans (((cell_far (p := ⟨gb492, _, none⟩) NB491_492.out _).trans (hHeld.2.2.2))))))⟩ (fun hHeld => ?_)
 clear hK K
 refine qBF (i := 7) (N := some 9) (bs 8 255) ?_
 refine qF9 (qDX HT_.out (by kernel_rfl)) ?_
 try go_wp2
 refine bodyPost_ret (qDN rfl _ _ gb492 35 #[.int .i64 t495, .slice Ao22 t496.length co22, .slice Ao24 t499.length co24] (0, 0) _ rfl (zp3 BK492) Tryz.underlying35 rfl (by kernel_rfl)) rfl ?_
 exact ⟨_, _, zf, by (with_reducible repeat refine sR ?_); exact Kd.qB7 (Kd.qAW (Kd.qAW (Kd.qAW (Kd.qBG HO498.out BK492.out (by decide)) (fun _ hk => hk.2) _) (fun _ hk => hk.2) _) (fun _ hk => hk.2) _) (fun _ hk => trivial), by (with_reducible repeat refine sR ?_); exact Kd.qB7 (Kd.qAW (Kd.qAW (Kd.qAW (Kd.qBG HO501.out BK492.out (by decide)) (fun _ hk => hk.2) _) (fun _ hk => hk.2) _) (fun _ hk => hk.2) _) (fun _ hk => trivial), zb⟩
mutual
def qC8.j0 : Nat → List (S76) → Int → Int → Bool → Int → List Int → List (S56) → Int → Option ((List (S35)) × Int)
 | 0, _, _, _, _, _, _, _, _ => none
 | k + 1, x0, x2, x3, x24, x503000, x503001, x503002, x503003 => if x24 = true then (some (([] : List (S35)), 1)) else (qC8.l0 k x0 x2 ([] : List (S35)) x3 0 x503000 x503001 x503002 x503003)
def qC8.l0 : Nat → List (S76) → Int → List (S35) → Int → Int → Int → List Int → List (S56) → Int → Option ((List (S35)) × Int)
 | 0, _, _, _, _, _, _, _, _, _ => none
 | k + 1, x0, x2, x11, x25, x26, x503000, x503001, x503002, x503003 => if x26 < x25 then ((qE6.f x2 x26).bind fun t504 => ((qC0.f k x0 x503000 x503001 x503002 x503003 t504).bind fun bt505 => (if x11.length < 2513169434916 then (qC8.l0 k x0 x2 (x11 ++ [(⟨bt505.1, bt505.2.1, bt505.2.2⟩ : S35)]) x25 (wrap64 (x26 + 1)) x503000 x503001 x503002 x503003) else (none)))) else (some (x11, 0))
end
def qC8.f (k : Nat) (l0 : List (S76)) (a1_0 : Int) (l1_1 : List Int) (l1_2 : List (S56)) (a1_3 : Int) (a2 : Int) (a3 : Int) : Option ((List (S35)) × Int) := (qAV.f k l0 a1_0 l1_1 l1_2 a1_3).bind fun t503 => (if t503 = 0 then (if a3 < 0 then (qC8.j0 k l0 a2 a3 true a1_0 l1_1 l1_2 a1_3) else (qC8.j0 k l0 a2 a3 (decide (a3 > 1000)) a1_0 l1_1 l1_2 a1_3)) else (some (([] : List (S35)), t503)))
def qC8.T10 : Bool × List (List Nat × List Nat) := (true, [([], []), ([], []), ([], []), ([], []), ([], []), ([3, 4], [3, 4]), ([1, 2, 5, 5], [1, 2, 5]), ([6], [6]), ([0, 7, 6], [0, 7]), ([8, 8, 0, 1, 2, 3, 4, 5, 6, 7, 8], [0, 8])])
def qC8.B10 : List Nat := [0, 0, 0, 0, 0, 24, 62, 126, 255, 511]
theorem qC8.tab10 : rtab .any (opsOf Tryz.f10 10) = qC8.T10 := by kernel_rfl
theorem qC8.bits10 : qDW qC8.T10.2 qC8.B10 = true := by kernel_rfl
theorem qC8.calls (k : Nat) (A0 : Option Addr) (c0 : Nat) (l0 : List (S76)) (a1_0 : Int) (A1_1 : Option Addr) (c1_1 : Nat) (l1_1 : List Int) (A1_2 : Option Addr) (c1_2 : Nat) (l1_2 : List (S56)) (a1_3 : Int) (a2 : Int) (a3 : Int) (r1 : List (S35)) (r2 : Int) (w : World) (hr0 : Kd.C k76 w A0 l0.length l0) (hc0 : l0.length ≤ c0) (hr1_1 : Kd.C (Kd.int .i64) w A1_1 l1_1.length l1_1) (hc1_1 : l1_1.length ≤ c1_1) (hr1_2 : Kd.C k56 w A1_2 l1_2.length l1_2) (hc1_2 : l1_2.length ≤ c1_2) (h : qC8.f k l0 a1_0 l1_1 l1_2 a1_3 a2 a3 = some (r1, r2)) :
  Calls Tryz.prog 10 #[.slice A0 l0.length c0, .agg #[.int .i64 a1_0, .slice A1_1 l1_1.length c1_1, .slice A1_2 l1_2.length c1_2, .int .i64 a1_3], .int .u64 a2, .int .i64 a3] w fun e w' => ∃ v0_ : Value, e = .returned (.tuple #[v0_, .int .i64 r2]) ∧ Kd.S k35 35 w' w.heap.size (fun _ => True) v0_ r1 ∧ Below w.heap.size w w' := by
 have hu27 := Tryz.underlying27
 have HR0 := qA0.mk hr0
 have HC0 := qA0.mk hc0
 clear hr0 hc0
 have HR1_1 := qA0.mk hr1_1
 have HC1_1 := qA0.mk hc1_1
 clear hr1_1 hc1_1
 have HR1_2 := qA0.mk hr1_2
 have HC1_2 := qA0.mk hc1_2
 clear hr1_2 hc1_2
 have HB := qA0.mk (Below.refl w.heap.size w)
 have H := h
 unfold qC8.f at H
 clear h
 replace H := zi H
 obtain ⟨t503, A50, H⟩ := H
 have A5 := qA0.mk A50
 clear A50
 by_cases c6 : t503 = 0
 rotate_left
 ·rw [if_neg c6] at H
  have ⟨c6b0, c6b1⟩ := zn c6
  simp only [Option.some.injEq, Prod.mk.injEq] at H
  obtain ⟨rfl, rfl⟩ := H
  go_enter Tryz.func10, Tryz.ntmps10
  go_wp2_with (first | ((with_reducible refine qA9 (N := 5) rfl ?_); refine boxZ 5 #[.int .i64 a1_0, .slice A1_1 l1_1.length c1_1, .slice A1_2 l1_2.length c1_2, .int .i64 a1_3] 27 ?_; intro gb502 hg w22 hbox hb; have BK502 := qA0.mk (hbox); have GW502 := zg w gb502; have GE502 := zg w gb502; replace HB := zB hb; clear hb hbox hg; obtain ⟨hcz23_0, hcz23_1, hcz23_2, hcz23_3, hfz23_0, hfz23_1, hfz23_2, hfz23_3⟩ := bc4 BK502.out) | ((with_reducible refine qA6 (f := 6) rfl ?_); refine qBP (some 15) Tryz.func6 #[.slice A0 l0.length c0, .agg #[.int .i64 a1_0, .slice A1_1 l1_1.length c1_1, .slice A1_2 l1_2.length c1_2, .int .i64 a1_3]] ?_; (with_reducible refine (qAV.calls k _ _ l0 a1_0 _ _ l1_1 _ _ l1_2 a1_3 t503 _ ?side1 ?side2 ?side3 ?side4 ?side5 ?side6 A5.out).mono ?_); (case side1 => repeat (first | exact (Kd.qAE HR0.out HB.out) | refine sC ?_)); (case side2 => exact HC0.out); (case side3 => repeat (first | exact (Kd.qAE HR1_1.out HB.out) | refine sC ?_)); (case side4 => exact HC1_1.out); (case side5 => repeat (first | exact (Kd.qAE HR1_2.out HB.out) | refine sC ?_)); (case side6 => exact HC1_2.out); rintro e w24 ⟨rfl, hb⟩; refine ⟨_, rfl, ?_⟩; replace BK502 := zK BK502 hb; replace HB := zB hb; (try clear hb hk); (try clear hb)))
  go_ret2
  exact ⟨_, zf, by first | exact Kd.qFB _ _ _ _ _ | exact Kd.N_nil _ _ _ _ _ | exact Kd.qF4 _ _ _ _ _ | exact Kd.Q_nil _ _ _ _ _ | exact Kd.qEM _ _ _ _ _, zb⟩
 rw [if_pos c6] at H
 have ⟨c6b0, c6b1⟩ := ze c6
 clear c6
 have HC7 := qA0.mk H
 clear H
 go_enter Tryz.func10, Tryz.ntmps10
 go_upto_region 4 with (first | ((with_reducible refine qA9 (N := 5) rfl ?_); refine boxZ 5 #[.int .i64 a1_0, .slice A1_1 l1_1.length c1_1, .slice A1_2 l1_2.length c1_2, .int .i64 a1_3] 27 ?_; intro gb502 hg w8 hbox hb; have BK502 := qA0.mk (hbox); have GW502 := zg w gb502; have GE502 := zg w gb502; replace HB := zB hb; clear hb hbox hg; obtain ⟨hcz9_0, hcz9_1, hcz9_2, hcz9_3, hfz9_0, hfz9_1, hfz9_2, hfz9_3⟩ := bc4 BK502.out) | ((with_reducible refine qA6 (f := 6) rfl ?_); refine qBP (some 15) Tryz.func6 #[.slice A0 l0.length c0, .agg #[.int .i64 a1_0, .slice A1_1 l1_1.length c1_1, .slice A1_2 l1_2.length c1_2, .int .i64 a1_3]] ?_; (with_reducible refine (qAV.calls k _ _ l0 a1_0 _ _ l1_1 _ _ l1_2 a1_3 t503 _ ?side1 ?side2 ?side3 ?side4 ?side5 ?side6 A5.out).mono ?_); (case side1 => repeat (first | exact (Kd.qAE HR0.out HB.out) | refine sC ?_)); (case side2 => exact HC0.out); (case side3 => repeat (first | exact (Kd.qAE HR1_1.out HB.out) | refine sC ?_)); (case side4 => exact HC1_1.out); (case side5 => repeat (first | exact (Kd.qAE HR1_2.out HB.out) | refine sC ?_)); (case side6 => exact HC1_2.out); rintro e w10 ⟨rfl, hb⟩; refine ⟨_, rfl, ?_⟩; replace BK502 := zK BK502 hb; replace HB := zB hb; (try clear hb hk); (try clear hb)))
 go_cut [24] (fun v24 wc => ∃ (kq : Nat) (x24_6 : Bool), v24 = .bool x24_6 ∧ qA0 (qC8.j0 kq l0 a2 a3 x24_6 a1_0 l1_1 l1_2 a1_3 = some (r1, r2)) ∧ qA0 (kq ≤ k) ∧ qA0 (wc.heap[gb502]? = some (.cells #[.int .i64 a1_0, (.slice A1_1 l1_1.length c1_1), (.slice A1_2 l1_2.length c1_2), .int .i64 a1_3] 27 (0, 0))) ∧ qA0 (Below w.heap.size w wc))
 case first =>
  have H := HC7.out
  clear HC7
  by_cases c11 : a3 < 0
  rotate_left
  ·rw [if_neg c11] at H
   have c11b0 := decide_eq_false c11
   clear c11
   (first | rw [c11b0] | (simp only [qC9, qCB]; rw [c11b0]) | skip)
   have H' := qA0.mk H
   clear H
   go_wp2
   go_meet
   case rel => exact ⟨_, (decide (a3 > 1000)), zs, H', ⟨by first | omega | exact Nat.le_refl _⟩, ⟨zk BK502⟩, ⟨zb⟩⟩
  rw [if_pos c11] at H
  have c11b0 := decide_eq_true c11
  clear c11
  (first | rw [c11b0] | (simp only [qC9, qCB]; rw [c11b0]) | skip)
  have H' := qA0.mk H
  clear H
  go_wp2
  go_meet
  case rel => exact ⟨_, (true), zs, H', ⟨by first | omega | exact Nat.le_refl _⟩, ⟨zk BK502⟩, ⟨zb⟩⟩
 clear HC7 c6b0 c6b1 hcz9_0 hcz9_1 hcz9_2 hcz9_3 hfz9_0 hfz9_1 hfz9_2 hfz9_3
 obtain ⟨kq, x24_6, rfl, HA, HJ6, BK502, HB⟩ := hcut
 obtain _ | kj6 := kq
 ·exact absurd HA.out (by simp [qC8.j0])
 have H := HA.out
 clear HA
 simp only [qC8.j0] at H
 by_cases c12 : x24_6 = true
 ·subst c12
  rw [if_pos rfl] at H
  simp only [Option.some.injEq, Prod.mk.injEq] at H
  obtain ⟨rfl, rfl⟩ := H
  go_wp2
  go_ret2
  exact ⟨_, zf, by first | exact Kd.qFB _ _ _ _ _ | exact Kd.N_nil _ _ _ _ _ | exact Kd.qF4 _ _ _ _ _ | exact Kd.Q_nil _ _ _ _ _ | exact Kd.qEM _ _ _ _ _, zb⟩
 replace c12 := Bool.eq_false_iff.mpr c12
 subst c12
 rw [zj] at H
 have H' := qA0.mk H
 clear H
 go_wp2
 go_loopg [11, 26] kj6 (fun kq v11 v26 w' => ∃ (x11_2 : List (S35)) (x26_2 : Int), v26 = .int .i64 x26_2 ∧ qA0 (qC8.l0 kq l0 a2 x11_2 a3 x26_2 a1_0 l1_1 l1_2 a1_3 = some (r1, r2)) ∧ qA0 (kq ≤ kj6) ∧ qA0 (Kd.S k35 35 w' w.heap.size (fun _ => True) v11 x11_2) ∧ qA0 (w'.heap[gb502]? = some (.cells #[.int .i64 a1_0, (.slice A1_1 l1_1.length c1_1), (.slice A1_2 l1_2.length c1_2), .int .i64 a1_3] 27 (0, 0))) ∧ qA0 (Below w.heap.size w w'))
 case atStart => exact ⟨(([] : List (S35))), (0), zs, H', ⟨Nat.le_refl _⟩, ⟨by first | exact Kd.qFB _ _ _ _ _ | exact Kd.N_nil _ _ _ _ _ | exact Kd.qF4 _ _ _ _ _ | exact Kd.Q_nil _ _ _ _ _ | exact Kd.qEM _ _ _ _ _⟩, ⟨zk BK502⟩, ⟨zb⟩⟩
 clear H'
 obtain ⟨x11_2, x26_2, rfl, HA, HK2, HO_11, BK502, HB⟩ := hrel
 obtain _ | k2 := gk
 ·exact absurd HA.out (by simp [qC8.l0])
 have H := HA.out
 clear HA
 simp only [qC8.l0] at H
 by_cases c13 : x26_2 < a3
 rotate_left
 ·rw [if_neg c13] at H
  have c13b0 := decide_eq_false c13
  clear c13
  simp only [Option.some.injEq, Prod.mk.injEq] at H
  obtain ⟨rfl, rfl⟩ := H
  go_wp2
  go_ret2
  exact ⟨_, zf, by (with_reducible repeat refine sS ?_); exact HO_11.out, zb⟩
 rw [if_pos c13] at H
 have c13b0 := decide_eq_true c13
 clear c13
 replace H := zi H
 obtain ⟨t504, A140, H⟩ := H
 have A14 := qA0.mk A140
 clear A140
 replace H := zi H
 obtain ⟨⟨t505, t506, t509⟩, A150, H⟩ := H
 dsimp only at H
 have A15 := qA0.mk A150
 clear A150
 by_cases c16 : x11_2.length < 2513169434916
 rotate_left
 ·rw [if_neg c16] at H
  cases H
 rw [if_pos c16] at H
 have LMc16 := qA0.mk c16
 clear c16
 obtain ⟨y512, hy_⟩ : ∃ y_ : List (S35), y_ = (x11_2 ++ [(⟨t505, t506, t509⟩ : S35)]) := ⟨_, rfl⟩
 replace H : (qC8.l0 k2 l0 a2 y512 a3 (wrap64 (x26_2 + 1)) a1_0 l1_1 l1_2 a1_3) = some (r1, r2) := zr
 have Ny512 := qA0.mk hy_
 clear hy_
 have H' := qA0.mk H
 clear H
 try go_wp2
 replace HO_11 := qA0.mk (Kd.S_drew HO_11.out)
 replace BK502 := qA0.mk (qB2 BK502.out)
 replace HB := qA0.mk (qAF HB.out)
 refine qEA (n := 10) (S := fun w' => w'.cell? ⟨gb502, 0, none⟩ = some (.int .i64 a1_0) ∧ w'.cell? ⟨gb502, 1, none⟩ = some (.slice A1_1 l1_1.length c1_1) ∧ w'.cell? ⟨gb502, 2, none⟩ = some (.slice A1_2 l1_2.length c1_2) ∧ w'.cell? ⟨gb502, 3, none⟩ = some (.int .i64 a1_3)) (ds := []) (bs 10 0) (by kernel_rfl) rfl rfl ⟨(qA1 BK502.out 0).trans rfl, (qA1 BK502.out 1).trans rfl, (qA1 BK502.out 2).trans rfl, (qA1 BK502.out 3).trans rfl⟩ (fun hHeld => ?_); refine qCS qC8.tab10 qC8.bits10 (fun HT_ HW_ => ?_)
 generalize wr.drew = w17 at HO_11 BK502 HB hHeld ⊢
 refine qBF (i := 0) (N := some 29) (bs 10 1) ?_
 refine qBF (i := 1) (N := some 30) (bs 10 3) ?_
 refine qBF (i := 3) (N := some 32) (bs 10 11) ?_
 refine qBF (i := 4) (N := some 33) (bs 10 27) ?_
 refine qDT (i := 2) (N := some 31) (bs 10 31) ?_
 refine one_ (i := 5) (N := some 34) (bs 10 63) rfl rfl (qCR HT_.out (by kernel_rfl)) (by decide) (fun K hK => ?_)
 refine qEO Tryz.func29 (by kernel_rfl) rfl #[.int .u64 a2, .int .i64 x26_2] (by rfl) rfl rfl (by (try simp only [List.map_toArray, List.map_cons, List.map_nil]); first | done | rfl | (simp only [List.length_drop, List.length_take]; rfl)) ?_
 with_reducible refine (qE6.calls a2 x26_2 t504 _ A14.out).mono ?_
 rintro e w' ⟨rfl, ⟨nd, rfl⟩⟩
 refine ⟨_, rfl, ?_⟩
 refine hK.out _ _ ⟨(qA1 BK502.out 0).trans rfl, (qA1 BK502.out 1).trans rfl, (qA1 BK502.out 2).trans rfl, (qA1 BK502.out 3).trans rfl⟩ (fun hHeld => ?_)
 clear hK K
 refine qEB ?_
 refine one_ (i := 6) (N := some 35) (bs 10 127) rfl rfl (qCR HT_.out (by kernel_rfl)) (by decide) (fun K hK => ?_)
 refine qEO Tryz.func28 (by kernel_rfl) rfl #[.slice A0 l0.length c0, .agg #[.int .i64 a1_0, .slice A1_1 l1_1.length c1_1, .slice A1_2 l1_2.length c1_2, .int .i64 a1_3], .int .u64 t504] (by rfl) rfl rfl (by (try simp only [List.map_toArray, List.map_cons, List.map_nil]); first | done | rfl | (simp only [List.length_drop, List.length_take]; rfl)) ?_
 with_reducible refine (qC0.calls k2 _ _ l0 a1_0 _ _ l1_1 _ _ l1_2 a1_3 t504 t505 t506 t509 _ ?side1 ?side2 ?side3 ?side4 ?side5 ?side6 A15.out).mono ?_
 (case side1 => repeat (first | exact (Kd.qAE HR0.out zb) | refine sC ?_))
 (case side2 => exact HC0.out)
 (case side3 => repeat (first | exact (Kd.qAE HR1_1.out zb) | refine sC ?_))
 (case side4 => exact HC1_1.out)
 (case side5 => repeat (first | exact (Kd.qAE HR1_2.out zb) | refine sC ?_))
 (case side6 => exact HC1_2.out)
 rintro e w18 ⟨v507, v510, rfl, ho0, ho1, hb⟩
 refine ⟨_, rfl, ?_⟩
 have HO508 := qA0.mk (Kd.qCI ho0 (qAI zb))
 have HO511 := qA0.mk (Kd.qCI ho1 (qAI zb))
 replace HO_11 := qA0.mk (Kd.qDQ (Kd.S_told (Kd.S_told (Kd.S_old (by (with_reducible repeat refine sS ?_); exact HO_11.out) hb) (Kd.R_base ho0)) (Kd.R_base ho1)) (fun _ h_ => h_.1))
 replace BK502 := zK BK502 hb
 replace HB := zB hb
 (try clear hb)
 (try clear hb2)
 (try clear hk)
 (try clear hi)
 (try clear ho0)
 (try clear ho1)
 obtain ⟨Ao20, co20, eo20⟩ := Kd.qBV HO508.out
 (first | subst eo20 | (injection eo20 with f1_ f2_ f3_; have f4_ := f1_.symm; have f5_ := f3_.symm; clear f1_ f2_ f3_; subst f4_; subst f5_))
 obtain ⟨Ao21, co21, eo21⟩ := Kd.qBV HO511.out
 (first | subst eo21 | (injection eo21 with f1_ f2_ f3_; have f4_ := f1_.symm; have f5_ := f3_.symm; clear f1_ f2_ f3_; subst f4_; subst f5_))
 refine hK.out _ _ ⟨(qA1 BK502.out 0).trans rfl, (qA1 BK502.out 1).trans rfl, (qA1 BK502.out 2).trans rfl, (qA1 BK502.out 3).trans rfl⟩ (fun hHeld => ?_)
 clear hK K
 refine qEB ?_
 refine one_ (i := 7) (N := some 36) (bs 10 255) rfl rfl (qCR HT_.out (by kernel_rfl)) (by decide) (fun K hK => ?_)
 refine value_ (w1 := ?_) (v := ?_) (by rfl) rfl ?_ ?_
 rotate_left 2
 ·go_simp
  constructor
  ·rfl
  ·rfl
 refine hK.out _ _ ⟨(qA1 (qB8 BK502.out _) 0).trans rfl, (qA1 (qB8 BK502.out _) 1).trans rfl, (qA1 (qB8 BK502.out _) 2).trans rfl, (qA1 (qB8 BK502.out _) 3).trans rfl⟩ (fun hHeld => ?_)
 clear hK K
 refine qEB ?_
 refine one_ (i := 8) (N := some 37) (bs 10 511) rfl rfl (qCR HT_.out (by kernel_rfl)) (by decide) (fun K hK => ?_)
 refine Kd.S_append_step k35 (w0 := w) w.heap.size (by rfl) (.tmp 29) (.tmp 36) 38 35 (.agg #[(.int .i64 0), (.slice none 0 0), (.slice none 0 0)]) 56 rfl Tryz.underlying38 info35 rfl (by decide) (by omega) u11 x11_2 (⟨t505, t506, t509⟩ : S35) [.int .i64 t505, .slice Ao20 t506.length co20, .slice Ao21 t509.length co21] (fun _ => True) (fun k_ => some k_ = (.slice Ao20 t506.length co20 : Value).ownBlock ∨ some k_ = (.slice Ao21 t509.length co21 : Value).ownBlock) rfl rfl ?aP (fun k_ hk_ => hk_.elim (fun h_ => ((Kd.qB7 (ok' := fun k_ => ((fun _ => True)) k_ ∧ some k_ ≠ (u11 : Value).ownBlock) (Kd.qEU (HO508.out) (Kd.S_typed HO_11.out) (by decide)) (fun k_ hk => ⟨trivial, hk.2⟩))).1 k_ h_.symm) (fun h_ => ((Kd.qB7 (ok' := fun k_ => ((fun _ => True)) k_ ∧ some k_ ≠ (u11 : Value).ownBlock) (Kd.qEU (HO511.out) (Kd.S_typed HO_11.out) (by decide)) (fun k_ hk => ⟨trivial, hk.2⟩))).1 k_ h_.symm)) ?aF ?aO ?aB ?aS ?aL ?_
 (case aP => exact k35_mkM _ _ _ (⟨t505, t506, t509⟩ : S35) (Kd.qB7 (Kd.qF7 rfl (Kd.qB7 (ok' := fun k_ => ((fun _ => True)) k_ ∧ some k_ ≠ (u11 : Value).ownBlock) (Kd.qEU (HO508.out) (Kd.S_typed HO_11.out) (by decide)) (fun k_ hk => ⟨trivial, hk.2⟩))) (fun _ h_ => Or.inl h_)) (Kd.qB7 (Kd.qF7 rfl (Kd.qB7 (ok' := fun k_ => ((fun _ => True)) k_ ∧ some k_ ≠ (u11 : Value).ownBlock) (Kd.qEU (HO511.out) (Kd.S_typed HO_11.out) (by decide)) (fun k_ hk => ⟨trivial, hk.2⟩))) (fun _ h_ => Or.inr (h_))))
 (case aB => exact zb)
 (case aF => exact (fun _ _ => trivial))
 (case aO => exact (by (with_reducible repeat refine sS ?_); exact Kd.qDQ HO_11.out (fun k_ hk => ⟨trivial, fun e_ => e_.elim (fun h_ => hk.1.2 h_) (fun h_ => hk.2 h_)⟩)))
 (case aS => exact (qAI zb))
 (case aL => have := LMc16.out; omega)
 intro v513 w19 ho hb hg hat
 rw [← Ny512.out] at ho
 have HO514 := qA0.mk (ho)
 replace BK502 := qA0.mk (qAO (g := gb502) (o := .cells #[.int .i64 a1_0, .slice A1_1 l1_1.length c1_1, .slice A1_2 l1_2.length c1_2, .int .i64 a1_3] 27 (0, 0)) (zk BK502) hg (Kd.S_ne HO_11.out BK502.out (by decide)))
 replace HB := qA0.mk (hb)
 clear HO508
 clear HO_11
 clear HO511
 clear ho hb hg hat
 refine hK.out _ _ ⟨(qA1 BK502.out 0).trans rfl, (qA1 BK502.out 1).trans rfl, (qA1 BK502.out 2).trans rfl, (qA1 BK502.out 3).trans rfl⟩ (fun hHeld => ?_)
 clear hK K
 refine qEB ?_
 refine qBF (i := 9) (N := some 11) (bs 10 1023) ?_
 refine qF9 (qDX HT_.out (by kernel_rfl)) ?_
 try go_wp2
 go_roundg k2
 case measure => have := HJ6.out; have := HK2.out; omega
 case rel => exact ⟨(y512), (wrap64 (x26_2 + 1)), zs, H', ⟨by have := HJ6.out; have := HK2.out; omega⟩, ⟨by (with_reducible repeat refine sS ?_); exact HO514.out⟩, ⟨zk BK502⟩, ⟨zb⟩⟩
mutual
def qAG.j0 : Nat → List (S76) → Bool → Int → List Int → List (S56) → Int → Option (Int)
 | 0, _, _, _, _, _, _ => none
 | k + 1, x0, x20, x435000, x435001, x435002, x435003 => if x20 = true then (some 1) else (if (x435001.length : Int) > 6 then (some 2) else (if (x435002.length : Int) > 40 then (some 2) else ((qAN.f k x435001).bind fun t436 => (if t436 = 0 then (qAG.l0 k x0 (⟨#[]⟩ : ByteArray) x435002 (x435002.length : Int) 0) else (some t436)))))
def qAG.l0 : Nat → List (S76) → ByteArray → List (S56) → Int → Int → Option (Int)
 | 0, _, _, _, _, _ => none
 | k + 1, x0, x7, x57, x58, x59 => if x59 < x58 then (if 0 ≤ x59 then (if x59 < (x57.length : Int) then ((qBA.f k x0 ((qAH x57 x59).f0)).bind fun bt439 => (if bt439.2.2.1 = true then (if ((Op.bytesLess x7.toList (((qAH x57 x59).f0).toList)) = true) then (if (((qAH x57 x59).f2).length : Int) = (((qAH x57 x59).f1).length : Int) then (qAG.l1 k x0 ((qAH x57 x59).f0) x57 x58 x59 ((qAH x57 x59).f1) (((qAH x57 x59).f1).length : Int) 0 ((qAH x57 x59).f0) ((qAH x57 x59).f1) ((qAH x57 x59).f2) bt439.1 bt439.2.1 bt439.2.2.1 bt439.2.2.2.1 bt439.2.2.2.2.1 bt439.2.2.2.2.2.1 bt439.2.2.2.2.2.2.1) else (some 3)) else (some 9)) else (some 15))) else (none)) else (none)) else (some 0)
def qAG.l1 : Nat → List (S76) → ByteArray → List (S56) → Int → Int → List Int → Int → Int → ByteArray → List Int → List Int → ByteArray → Int → Bool → Int → Int → Int → Int → Option (Int)
 | 0, _, _, _, _, _, _, _, _, _, _, _, _, _, _, _, _, _, _ => none
 | k + 1, x0, x7, x57, x58, x59, x87, x88, x89, x439000, x439001, x439002, x448000, x448001, x448002, x448003, x448004, x448005, x448006 => if x89 < x88 then (if 0 ≤ x89 then (if x89 < (x87.length : Int) then (if (rd x87 x89) > x448004 then (some 18) else (if (rd x87 x89) < x448003 then (some 18) else (qAG.l1 k x0 x7 x57 x58 x59 x87 x88 (wrap64 (x89 + 1)) x439000 x439001 x439002 x448000 x448001 x448002 x448003 x448004 x448005 x448006))) else (none)) else (none)) else ((qAN.f k x439002).bind fun t449 => (if t449 = 0 then (qAG.l0 k x0 x7 x57 x58 (wrap64 (x59 + 1))) else (some t449)))
end
def qAG.f (k : Nat) (l0 : List (S76)) (a1_0 : Int) (l1_1 : List Int) (l1_2 : List (S56)) (a1_3 : Int) : Option (Int) := (qCJ.f l0).bind fun t435 => (if t435 = 0 then (if a1_0 < 0 then (qAG.j0 k l0 true a1_0 l1_1 l1_2 a1_3) else (if a1_0 ≥ 1048576 then (qAG.j0 k l0 true a1_0 l1_1 l1_2 a1_3) else (if a1_3 < 0 then (qAG.j0 k l0 true a1_0 l1_1 l1_2 a1_3) else (qAG.j0 k l0 (decide (a1_3 > 1000000)) a1_0 l1_1 l1_2 a1_3)))) else (some t435))
theorem qAG.calls (k : Nat) (A0 : Option Addr) (c0 : Nat) (l0 : List (S76)) (a1_0 : Int) (A1_1 : Option Addr) (c1_1 : Nat) (l1_1 : List Int) (A1_2 : Option Addr) (c1_2 : Nat) (l1_2 : List (S56)) (a1_3 : Int) (r : Int) (w : World) (hr0 : Kd.C k76 w A0 l0.length l0) (hc0 : l0.length ≤ c0) (hr1_1 : Kd.C (Kd.int .i64) w A1_1 l1_1.length l1_1) (hc1_1 : l1_1.length ≤ c1_1) (hr1_2 : Kd.C k56 w A1_2 l1_2.length l1_2) (hc1_2 : l1_2.length ≤ c1_2) (h : qAG.f k l0 a1_0 l1_1 l1_2 a1_3 = some r) :
  Calls Tryz.prog 8 #[.slice A0 l0.length c0, .agg #[.int .i64 a1_0, .slice A1_1 l1_1.length c1_1, .slice A1_2 l1_2.length c1_2, .int .i64 a1_3]] w fun e w' => e = .returned (.int .i64 r) ∧ Below w.heap.size w w' := by
 have hu27 := Tryz.underlying27
 have hu56 := Tryz.underlying56
 have hu60 := Tryz.underlying60
 have HR0 := qA0.mk hr0
 have HC0 := qA0.mk hc0
 clear hr0 hc0
 have HR1_1 := qA0.mk hr1_1
 have HC1_1 := qA0.mk hc1_1
 clear hr1_1 hc1_1
 have HR1_2 := qA0.mk hr1_2
 have HC1_2 := qA0.mk hc1_2
 clear hr1_2 hc1_2
 have HB := qA0.mk (Below.refl w.heap.size w)
 have H := h
 unfold qAG.f at H
 clear h
 replace H := zi H
 obtain ⟨t435, A30, H⟩ := H
 have A3 := qA0.mk A30
 clear A30
 by_cases c4 : t435 = 0
 rotate_left
 ·rw [if_neg c4] at H
  have ⟨c4b0, c4b1⟩ := zn c4
  obtain rfl := Option.some.inj H
  go_enter Tryz.func8, Tryz.ntmps8
  go_wp2_with (first | ((with_reducible refine qA9 (N := 3) rfl ?_); (try (refine qBD (by rfl) ?_; dsimp only)); refine boxZ 3 #[.int .i64 a1_0, .slice A1_1 l1_1.length c1_1, .slice A1_2 l1_2.length c1_2, .int .i64 a1_3] 27 ?_; intro gb434 hg w88 hbox hb; have BK434 := qA0.mk (hbox); have GW434 := zg w gb434; have GE434 := zg w gb434; replace HB := zB hb; clear hb hbox hg) | ((with_reducible refine qA6 (f := 21) rfl ?_); refine qBP (some 16) Tryz.func21 #[.slice A0 l0.length c0] ?_; (with_reducible refine (qCJ.calls _ _ l0 t435 _ ?side1 ?side2 A3.out).mono ?_); (case side1 => repeat (first | exact (Kd.qAE HR0.out HB.out) | refine sC ?_)); (case side2 => exact HC0.out); rintro e w89 ⟨rfl, hb⟩; refine ⟨_, rfl, ?_⟩; replace BK434 := zK BK434 hb; replace HB := zB hb; (try clear hb hk); (try clear hb)))
  go_ret
  exact ⟨zf, zb⟩
 rw [if_pos c4] at H
 have ⟨c4b0, c4b1⟩ := ze c4
 clear c4
 have HC5 := qA0.mk H
 clear H
 go_enter Tryz.func8, Tryz.ntmps8
 go_upto_region 4 with (first | ((with_reducible refine qA9 (N := 3) rfl ?_); (try (refine qBD (by rfl) ?_; dsimp only)); refine boxZ 3 #[.int .i64 a1_0, .slice A1_1 l1_1.length c1_1, .slice A1_2 l1_2.length c1_2, .int .i64 a1_3] 27 ?_; intro gb434 hg w6 hbox hb; have BK434 := qA0.mk (hbox); have GW434 := zg w gb434; have GE434 := zg w gb434; replace HB := zB hb; clear hb hbox hg) | ((with_reducible refine qA6 (f := 21) rfl ?_); refine qBP (some 16) Tryz.func21 #[.slice A0 l0.length c0] ?_; (with_reducible refine (qCJ.calls _ _ l0 t435 _ ?side1 ?side2 A3.out).mono ?_); (case side1 => repeat (first | exact (Kd.qAE HR0.out HB.out) | refine sC ?_)); (case side2 => exact HC0.out); rintro e w7 ⟨rfl, hb⟩; refine ⟨_, rfl, ?_⟩; replace BK434 := zK BK434 hb; replace HB := zB hb; (try clear hb hk); (try clear hb)))
 go_cut [20] (fun v20 wc => ∃ (kq : Nat) (x20_4 : Bool), v20 = .bool x20_4 ∧ qA0 (qAG.j0 kq l0 x20_4 a1_0 l1_1 l1_2 a1_3 = some r) ∧ qA0 (kq ≤ k) ∧ qA0 (wc.heap[gb434]? = some (.cells #[.int .i64 a1_0, (.slice A1_1 l1_1.length c1_1), (.slice A1_2 l1_2.length c1_2), .int .i64 a1_3] 27 (0, 0))) ∧ qA0 (Below w.heap.size w wc))
 case first =>
  have H := HC5.out
  clear HC5
  by_cases c8 : a1_0 < 0
  ·rw [if_pos c8] at H
   have c8b0 := decide_eq_true c8
   clear c8
   (first | rw [c8b0] | (simp only [qC9, qCB]; rw [c8b0]) | skip)
   have H' := qA0.mk H
   clear H
   obtain ⟨hcz9_0, hcz9_1, hcz9_2, hcz9_3, hfz9_0, hfz9_1, hfz9_2, hfz9_3⟩ := bc4 BK434.out
   go_wp2
   go_meet
   case rel => exact ⟨_, (true), zs, H', ⟨by first | omega | exact Nat.le_refl _⟩, ⟨zk BK434⟩, ⟨zb⟩⟩
  rw [if_neg c8] at H
  have c8b0 := decide_eq_false c8
  clear c8
  (first | rw [c8b0] | (simp only [qC9, qCB]; rw [c8b0]) | skip)
  by_cases c10 : a1_0 ≥ 1048576
  ·rw [if_pos c10] at H
   have c10b0 := decide_eq_true c10
   clear c10
   have H' := qA0.mk H
   clear H
   obtain ⟨hcz11_0, hcz11_1, hcz11_2, hcz11_3, hfz11_0, hfz11_1, hfz11_2, hfz11_3⟩ := bc4 BK434.out
   go_wp2
   go_meet
   case rel => exact ⟨_, (true), zs, H', ⟨by first | omega | exact Nat.le_refl _⟩, ⟨zk BK434⟩, ⟨zb⟩⟩
  rw [if_neg c10] at H
  have c10b0 := decide_eq_false c10
  clear c10
  by_cases c12 : a1_3 < 0
  rotate_left
  ·rw [if_neg c12] at H
   have c12b0 := decide_eq_false c12
   clear c12
   have H' := qA0.mk H
   clear H
   obtain ⟨hcz14_0, hcz14_1, hcz14_2, hcz14_3, hfz14_0, hfz14_1, hfz14_2, hfz14_3⟩ := bc4 BK434.out
   go_wp2
   go_meet
   case rel => exact ⟨_, (decide (a1_3 > 1000000)), zs, H', ⟨by first | omega | exact Nat.le_refl _⟩, ⟨zk BK434⟩, ⟨zb⟩⟩
  rw [if_pos c12] at H
  have c12b0 := decide_eq_true c12
  clear c12
  have H' := qA0.mk H
  clear H
  obtain ⟨hcz13_0, hcz13_1, hcz13_2, hcz13_3, hfz13_0, hfz13_1, hfz13_2, hfz13_3⟩ := bc4 BK434.out
  go_wp2
  go_meet
  case rel => exact ⟨_, (true), zs, H', ⟨by first | omega | exact Nat.le_refl _⟩, ⟨zk BK434⟩, ⟨zb⟩⟩
 clear HC5 c4b0 c4b1
 obtain ⟨kq, x20_4, rfl, HA, HJ4, BK434, HB⟩ := hcut
 obtain _ | kj4 := kq
 ·exact absurd HA.out (by simp [qAG.j0])
 have H := HA.out
 clear HA
 simp only [qAG.j0] at H
 by_cases c15 : x20_4 = true
 ·subst c15
  rw [if_pos rfl] at H
  obtain rfl := Option.some.inj H
  go_wp2
  go_ret
  exact ⟨zf, zb⟩
 replace c15 := Bool.eq_false_iff.mpr c15
 subst c15
 rw [zj] at H
 by_cases c16 : (l1_1.length : Int) > 6
 ·rw [if_pos c16] at H
  have c16b0 := decide_eq_true c16
  have c16b1 : decide (6 < l1_1.length) = true := decide_eq_true (by omega)
  clear c16
  obtain rfl := Option.some.inj H
  obtain ⟨hcz17_0, hcz17_1, hcz17_2, hcz17_3, hfz17_0, hfz17_1, hfz17_2, hfz17_3⟩ := bc4 BK434.out
  go_wp2
  go_ret
  exact ⟨zf, zb⟩
 rw [if_neg c16] at H
 have c16b0 := decide_eq_false c16
 have c16b1 : decide (6 < l1_1.length) = false := decide_eq_false (by omega)
 clear c16
 by_cases c18 : (l1_2.length : Int) > 40
 ·rw [if_pos c18] at H
  have c18b0 := decide_eq_true c18
  have c18b1 : decide (40 < l1_2.length) = true := decide_eq_true (by omega)
  clear c18
  obtain rfl := Option.some.inj H
  obtain ⟨hcz19_0, hcz19_1, hcz19_2, hcz19_3, hfz19_0, hfz19_1, hfz19_2, hfz19_3⟩ := bc4 BK434.out
  go_wp2
  go_ret
  exact ⟨zf, zb⟩
 rw [if_neg c18] at H
 have c18b0 := decide_eq_false c18
 have c18b1 : decide (40 < l1_2.length) = false := decide_eq_false (by omega)
 clear c18
 replace H := zi H
 obtain ⟨t436, A200, H⟩ := H
 have A20 := qA0.mk A200
 clear A200
 by_cases c21 : t436 = 0
 rotate_left
 ·rw [if_neg c21] at H
  have ⟨c21b0, c21b1⟩ := zn c21
  obtain rfl := Option.some.inj H
  obtain ⟨hcz87_0, hcz87_1, hcz87_2, hcz87_3, hfz87_0, hfz87_1, hfz87_2, hfz87_3⟩ := bc4 BK434.out
  go_wp2_with (((with_reducible refine qA6 (f := 26) rfl ?_); refine qBP (some 52) Tryz.func26 #[.slice A1_1 l1_1.length c1_1] ?_; (with_reducible refine (qAN.calls kj4 _ _ l1_1 t436 _ ?side1 ?side2 A20.out).mono ?_); (case side1 => repeat (first | exact (Kd.qAE HR1_1.out HB.out) | refine sC ?_)); (case side2 => exact HC1_1.out); rintro e w' ⟨rfl, ⟨nd, rfl⟩⟩; refine ⟨_, rfl, ?_⟩))
  go_ret
  exact ⟨zf, zb⟩
 rw [if_pos c21] at H
 have ⟨c21b0, c21b1⟩ := ze c21
 clear c21
 have H' := qA0.mk H
 clear H
 obtain ⟨hcz22_0, hcz22_1, hcz22_2, hcz22_3, hfz22_0, hfz22_1, hfz22_2, hfz22_3⟩ := bc4 BK434.out
 go_wp2_with (((with_reducible refine qA6 (f := 26) rfl ?_); refine qBP (some 52) Tryz.func26 #[.slice A1_1 l1_1.length c1_1] ?_; (with_reducible refine (qAN.calls kj4 _ _ l1_1 t436 _ ?side1 ?side2 A20.out).mono ?_); (case side1 => repeat (first | exact (Kd.qAE HR1_1.out HB.out) | refine sC ?_)); (case side2 => exact HC1_1.out); rintro e w' ⟨rfl, ⟨nd, rfl⟩⟩; refine ⟨_, rfl, ?_⟩))
 go_loopg [7, 59] kj4 (fun kq v7 v59 w' => ∃ (x7_2 : ByteArray) (x59_2 : Int), v7 = .string x7_2 ∧ v59 = .int .i64 x59_2 ∧ qA0 (qAG.l0 kq l0 x7_2 l1_2 (l1_2.length : Int) x59_2 = some r) ∧ qA0 (kq ≤ kj4) ∧ qA0 (w'.heap[gb434]? = some (.cells #[.int .i64 a1_0, (.slice A1_1 l1_1.length c1_1), (.slice A1_2 l1_2.length c1_2), .int .i64 a1_3] 27 (0, 0))) ∧ qA0 (Below w.heap.size w w'))
 case atStart => exact ⟨((⟨#[]⟩ : ByteArray)), (0), zs, zs, H', ⟨Nat.le_refl _⟩, ⟨zk BK434⟩, ⟨zb⟩⟩
 clear H' c16b0 c16b1 c18b0 c18b1 c21b0 c21b1 hcz22_0 hcz22_1 hcz22_2 hcz22_3 hfz22_0 hfz22_1 hfz22_2 hfz22_3
 obtain ⟨x7_2, x59_2, rfl, rfl, HA, HK2, BK434, HB⟩ := hrel
 obtain _ | k2 := gk
 ·exact absurd HA.out (by simp [qAG.l0])
 have H := HA.out
 clear HA
 simp only [qAG.l0] at H
 by_cases c23 : x59_2 < (l1_2.length : Int)
 rotate_left
 ·rw [if_neg c23] at H
  have c23b0 := decide_eq_false c23
  clear c23
  obtain rfl := Option.some.inj H
  go_wp2
  go_ret
  exact ⟨zf, zb⟩
 rw [if_pos c23] at H
 have c23b0 := decide_eq_true c23
 clear c23
 by_cases c24 : 0 ≤ x59_2
 rotate_left
 ·rw [if_neg c24] at H
  cases H
 rw [if_pos c24] at H
 have c24b0 := decide_eq_true c24
 clear c24
 by_cases c25 : x59_2 < (l1_2.length : Int)
 rotate_left
 ·rw [if_neg c25] at H
  cases H
 rw [if_pos c25] at H
 have c25b0 := decide_eq_true c25
 clear c25
 replace H := zi H
 obtain ⟨⟨t439, t440, t441, t442, t443, t444, t445, t446⟩, A260, H⟩ := H
 dsimp only at H
 have A26 := qA0.mk A260
 clear A260
 by_cases c27 : t441 = true
 rotate_left
 ·replace c27 := Bool.eq_false_iff.mpr c27
  subst c27
  rw [zj] at H
  obtain rfl := Option.some.inj H
  have p437 : 0 ≤ (x59_2 : Int) := zd
  have q437 : x59_2 < (l1_2.length : Int) := zd
  obtain ⟨ad437, A437_1, c437_1, A437_2, c437_2, e437, hx437_0, hx437_1, hx437_2, hl437_1, hi437_1, hl437_2, hi437_2⟩ := at_T56 HR1_2.out x59_2 p437 q437
  cases e437
  (try replace hx437_0 := zh hx437_0)
  replace hx437_1 := zh hx437_1
  replace hx437_2 := zh hx437_2
  have HR437_1 := qA0.mk hi437_1
  have HC437_1 := qA0.mk hl437_1
  clear hi437_1 hl437_1
  have HR437_2 := qA0.mk hi437_2
  have HC437_2 := qA0.mk hl437_2
  clear hi437_2 hl437_2
  replace p437 := eq_true p437
  replace q437 := eq_true q437
  go_wp2_with (first | ((with_reducible refine qA9 (N := 9) rfl ?_); (try (refine qBD (by rfl) ?_; dsimp only)); refine boxZ 9 #[.string (⟨#[]⟩ : ByteArray), .slice none 0 0, .slice none 0 0] 56 ?_; intro gb438 hg w79 hbox hb; have BK438 := qA0.mk (hbox); have GW438 := zg w gb438; have GE438 := zg w gb438; have NB434_438 := zl BK434 gb438; have NB438_434 := zu BK434 gb438; replace BK434 := zK BK434 hb; replace HB := zB hb; clear hb hbox hg; have hnb80 := NB438_434.out; have hnc80 := NB434_438.out; obtain ⟨hcz81_0, hcz81_1, hcz81_2, hfz81_0, hfz81_1, hfz81_2⟩ := bc3 BK438.out) | ((with_reducible refine qA6 (f := 27) rfl ?_); refine qBP (some 67) Tryz.func27 #[.slice A0 l0.length c0, .string ((qAH l1_2 x59_2).f0)] ?_; (with_reducible refine (qBA.calls k2 _ _ l0 ((qAH l1_2 x59_2).f0) t439 t440 false t442 t443 t444 t445 t446 _ ?side1 ?side2 A26.out).mono ?_); (case side1 => exact Kd.qAE HR0.out zb); (case side2 => exact HC0.out); rintro e w82 ⟨rfl, hb⟩; refine ⟨_, rfl, ?_⟩; replace BK434 := qA0.mk (qAL (g := gb434) (o := .cells #[.int .i64 a1_0, .slice A1_1 l1_1.length c1_1, .slice (some ad437) l1_2.length c1_2, .int .i64 a1_3] 27 (0, 0)) (by refine zf3 ?_ NB434_438; (with_reducible repeat refine st ?_); exact BK434.out) hb); replace BK438 := qA0.mk (qAL (zp3 BK438) hb); replace HB := zB hb; (try clear hb hk); (try clear hb)) | ((with_reducible refine qA9 (N := 10) rfl ?_); (try (refine qBD (by rfl) ?_; dsimp only)); refine boxZ 10 #[.string (⟨#[]⟩ : ByteArray), .int .i64 0, .bool false, .int .i64 0, .int .i64 0, .int .i64 0, .int .i64 0] 60 ?_; intro gb447 hg w83 hbox hb; have BK447 := qA0.mk (hbox); have GW447 := zg w gb447; have GE447 := zg w gb447; have NB434_447 := zl BK434 gb447; have NB447_434 := zu BK434 gb447; have NB438_447 := zl BK438 gb447; have NB447_438 := zu BK438 gb447; replace BK434 := zK BK434 hb; replace BK438 := zK BK438 hb; replace HB := zB hb; clear hb hbox hg; have hnb84 := NB447_434.out; have hnc84 := NB434_447.out; have hnb85 := NB447_438.out; have hnc85 := NB438_447.out; obtain ⟨hcz86_0, hcz86_1, hcz86_2, hcz86_3, hcz86_4, hcz86_5, hcz86_6, hfz86_0, hfz86_1, hfz86_2, hfz86_3, hfz86_4, hfz86_5, hfz86_6⟩ := bc7 BK447.out))
  go_ret
  exact ⟨zf, zb⟩
 subst c27
 rw [if_pos rfl] at H
 by_cases c28 : ((Op.bytesLess x7_2.toList (((qAH l1_2 x59_2).f0).toList)) = true)
 rotate_left
 ·rw [if_neg c28] at H
  have c28b0 : (Op.bytesLess x7_2.toList (((qAH l1_2 x59_2).f0).toList)) = false := by simpa using c28
  clear c28
  obtain rfl := Option.some.inj H
  have p437 : 0 ≤ (x59_2 : Int) := zd
  have q437 : x59_2 < (l1_2.length : Int) := zd
  obtain ⟨ad437, A437_1, c437_1, A437_2, c437_2, e437, hx437_0, hx437_1, hx437_2, hl437_1, hi437_1, hl437_2, hi437_2⟩ := at_T56 HR1_2.out x59_2 p437 q437
  cases e437
  (try replace hx437_0 := zh hx437_0)
  replace hx437_1 := zh hx437_1
  replace hx437_2 := zh hx437_2
  have HR437_1 := qA0.mk hi437_1
  have HC437_1 := qA0.mk hl437_1
  clear hi437_1 hl437_1
  have HR437_2 := qA0.mk hi437_2
  have HC437_2 := qA0.mk hl437_2
  clear hi437_2 hl437_2
  replace p437 := eq_true p437
  replace q437 := eq_true q437
  go_wp2_with (first | ((with_reducible refine qA9 (N := 9) rfl ?_); (try (refine qBD (by rfl) ?_; dsimp only)); refine boxZ 9 #[.string (⟨#[]⟩ : ByteArray), .slice none 0 0, .slice none 0 0] 56 ?_; intro gb438 hg w70 hbox hb; have BK438 := qA0.mk (hbox); have GW438 := zg w gb438; have GE438 := zg w gb438; have NB434_438 := zl BK434 gb438; have NB438_434 := zu BK434 gb438; replace BK434 := zK BK434 hb; replace HB := zB hb; clear hb hbox hg; have hnb71 := NB438_434.out; have hnc71 := NB434_438.out; obtain ⟨hcz72_0, hcz72_1, hcz72_2, hfz72_0, hfz72_1, hfz72_2⟩ := bc3 BK438.out) | ((with_reducible refine qA6 (f := 27) rfl ?_); refine qBP (some 67) Tryz.func27 #[.slice A0 l0.length c0, .string ((qAH l1_2 x59_2).f0)] ?_; (with_reducible refine (qBA.calls k2 _ _ l0 ((qAH l1_2 x59_2).f0) t439 t440 true t442 t443 t444 t445 t446 _ ?side1 ?side2 A26.out).mono ?_); (case side1 => exact Kd.qAE HR0.out zb); (case side2 => exact HC0.out); rintro e w73 ⟨rfl, hb⟩; refine ⟨_, rfl, ?_⟩; replace BK434 := qA0.mk (qAL (g := gb434) (o := .cells #[.int .i64 a1_0, .slice A1_1 l1_1.length c1_1, .slice (some ad437) l1_2.length c1_2, .int .i64 a1_3] 27 (0, 0)) (by refine zf3 ?_ NB434_438; (with_reducible repeat refine st ?_); exact BK434.out) hb); replace BK438 := qA0.mk (qAL (zp3 BK438) hb); replace HB := zB hb; (try clear hb hk); (try clear hb)) | ((with_reducible refine qA9 (N := 10) rfl ?_); (try (refine qBD (by rfl) ?_; dsimp only)); refine boxZ 10 #[.string (⟨#[]⟩ : ByteArray), .int .i64 0, .bool false, .int .i64 0, .int .i64 0, .int .i64 0, .int .i64 0] 60 ?_; intro gb447 hg w74 hbox hb; have BK447 := qA0.mk (hbox); have GW447 := zg w gb447; have GE447 := zg w gb447; have NB434_447 := zl BK434 gb447; have NB447_434 := zu BK434 gb447; have NB438_447 := zl BK438 gb447; have NB447_438 := zu BK438 gb447; replace BK434 := zK BK434 hb; replace BK438 := zK BK438 hb; replace HB := zB hb; clear hb hbox hg; have hnb75 := NB447_434.out; have hnc75 := NB434_447.out; have hnb76 := NB447_438.out; have hnc76 := NB438_447.out; obtain ⟨hcz77_0, hcz77_1, hcz77_2, hcz77_3, hcz77_4, hcz77_5, hcz77_6, hfz77_0, hfz77_1, hfz77_2, hfz77_3, hfz77_4, hfz77_5, hfz77_6⟩ := bc7 BK447.out; obtain ⟨hcz78_0, hcz78_1, hcz78_2, hfz78_0, hfz78_1, hfz78_2⟩ := bc3 BK438.out))
  go_ret
  exact ⟨zf, zb⟩
 rw [if_pos c28] at H
 have c28b0 : (Op.bytesLess x7_2.toList (((qAH l1_2 x59_2).f0).toList)) = true := c28
 clear c28
 by_cases c29 : (((qAH l1_2 x59_2).f2).length : Int) = (((qAH l1_2 x59_2).f1).length : Int)
 rotate_left
 ·rw [if_neg c29] at H
  have ⟨c29b0, c29b1⟩ := zn c29
  have c29b2 : (((qAH l1_2 x59_2).f2).length == ((qAH l1_2 x59_2).f1).length) = false := by first | simpa using c29 | (simp at c29 ⊢; omega)
  obtain rfl := Option.some.inj H
  have p437 : 0 ≤ (x59_2 : Int) := zd
  have q437 : x59_2 < (l1_2.length : Int) := zd
  obtain ⟨ad437, A437_1, c437_1, A437_2, c437_2, e437, hx437_0, hx437_1, hx437_2, hl437_1, hi437_1, hl437_2, hi437_2⟩ := at_T56 HR1_2.out x59_2 p437 q437
  cases e437
  (try replace hx437_0 := zh hx437_0)
  replace hx437_1 := zh hx437_1
  replace hx437_2 := zh hx437_2
  have HR437_1 := qA0.mk hi437_1
  have HC437_1 := qA0.mk hl437_1
  clear hi437_1 hl437_1
  have HR437_2 := qA0.mk hi437_2
  have HC437_2 := qA0.mk hl437_2
  clear hi437_2 hl437_2
  replace p437 := eq_true p437
  replace q437 := eq_true q437
  go_wp2_with (first | ((with_reducible refine qA9 (N := 9) rfl ?_); (try (refine qBD (by rfl) ?_; dsimp only)); refine boxZ 9 #[.string (⟨#[]⟩ : ByteArray), .slice none 0 0, .slice none 0 0] 56 ?_; intro gb438 hg w61 hbox hb; have BK438 := qA0.mk (hbox); have GW438 := zg w gb438; have GE438 := zg w gb438; have NB434_438 := zl BK434 gb438; have NB438_434 := zu BK434 gb438; replace BK434 := zK BK434 hb; replace HB := zB hb; clear hb hbox hg; have hnb62 := NB438_434.out; have hnc62 := NB434_438.out; obtain ⟨hcz63_0, hcz63_1, hcz63_2, hfz63_0, hfz63_1, hfz63_2⟩ := bc3 BK438.out) | ((with_reducible refine qA6 (f := 27) rfl ?_); refine qBP (some 67) Tryz.func27 #[.slice A0 l0.length c0, .string ((qAH l1_2 x59_2).f0)] ?_; (with_reducible refine (qBA.calls k2 _ _ l0 ((qAH l1_2 x59_2).f0) t439 t440 true t442 t443 t444 t445 t446 _ ?side1 ?side2 A26.out).mono ?_); (case side1 => exact Kd.qAE HR0.out zb); (case side2 => exact HC0.out); rintro e w64 ⟨rfl, hb⟩; refine ⟨_, rfl, ?_⟩; replace BK434 := qA0.mk (qAL (g := gb434) (o := .cells #[.int .i64 a1_0, .slice A1_1 l1_1.length c1_1, .slice (some ad437) l1_2.length c1_2, .int .i64 a1_3] 27 (0, 0)) (by refine zf3 ?_ NB434_438; (with_reducible repeat refine st ?_); exact BK434.out) hb); replace BK438 := qA0.mk (qAL (zp3 BK438) hb); replace HB := zB hb; (try clear hb hk); (try clear hb)) | ((with_reducible refine qA9 (N := 10) rfl ?_); (try (refine qBD (by rfl) ?_; dsimp only)); refine boxZ 10 #[.string (⟨#[]⟩ : ByteArray), .int .i64 0, .bool false, .int .i64 0, .int .i64 0, .int .i64 0, .int .i64 0] 60 ?_; intro gb447 hg w65 hbox hb; have BK447 := qA0.mk (hbox); have GW447 := zg w gb447; have GE447 := zg w gb447; have NB434_447 := zl BK434 gb447; have NB447_434 := zu BK434 gb447; have NB438_447 := zl BK438 gb447; have NB447_438 := zu BK438 gb447; replace BK434 := zK BK434 hb; replace BK438 := zK BK438 hb; replace HB := zB hb; clear hb hbox hg; have hnb66 := NB447_434.out; have hnc66 := NB434_447.out; have hnb67 := NB447_438.out; have hnc67 := NB438_447.out; obtain ⟨hcz68_0, hcz68_1, hcz68_2, hcz68_3, hcz68_4, hcz68_5, hcz68_6, hfz68_0, hfz68_1, hfz68_2, hfz68_3, hfz68_4, hfz68_5, hfz68_6⟩ := bc7 BK447.out; obtain ⟨hcz69_0, hcz69_1, hcz69_2, hfz69_0, hfz69_1, hfz69_2⟩ := bc3 BK438.out))
  go_ret
  exact ⟨zf, zb⟩
 rw [if_pos c29] at H
 have ⟨c29b0, c29b1⟩ := ze c29
 have c29b2 : (((qAH l1_2 x59_2).f2).length == ((qAH l1_2 x59_2).f1).length) = true := by first | simpa using c29 | (simp at c29 ⊢; omega)
 clear c29
 have H' := qA0.mk H
 clear H
 have p437 : 0 ≤ (x59_2 : Int) := zd
 have q437 : x59_2 < (l1_2.length : Int) := zd
 obtain ⟨ad437, A437_1, c437_1, A437_2, c437_2, e437, hx437_0, hx437_1, hx437_2, hl437_1, hi437_1, hl437_2, hi437_2⟩ := at_T56 HR1_2.out x59_2 p437 q437
 cases e437
 (try replace hx437_0 := zh hx437_0)
 replace hx437_1 := zh hx437_1
 replace hx437_2 := zh hx437_2
 have HR437_1 := qA0.mk hi437_1
 have HC437_1 := qA0.mk hl437_1
 clear hi437_1 hl437_1
 have HR437_2 := qA0.mk hi437_2
 have HC437_2 := qA0.mk hl437_2
 clear hi437_2 hl437_2
 replace p437 := eq_true p437
 replace q437 := eq_true q437
 go_wp2_with (first | ((with_reducible refine qA9 (N := 9) rfl ?_); (try (refine qBD (by rfl) ?_; dsimp only)); refine boxZ 9 #[.string (⟨#[]⟩ : ByteArray), .slice none 0 0, .slice none 0 0] 56 ?_; intro gb438 hg w30 hbox hb; have BK438 := qA0.mk (hbox); have GW438 := zg w gb438; have GE438 := zg w gb438; have NB434_438 := zl BK434 gb438; have NB438_434 := zu BK434 gb438; replace BK434 := zK BK434 hb; replace HB := zB hb; clear hb hbox hg; have hnb31 := NB438_434.out; have hnc31 := NB434_438.out; obtain ⟨hcz32_0, hcz32_1, hcz32_2, hfz32_0, hfz32_1, hfz32_2⟩ := bc3 BK438.out) | ((with_reducible refine qA6 (f := 27) rfl ?_); refine qBP (some 67) Tryz.func27 #[.slice A0 l0.length c0, .string ((qAH l1_2 x59_2).f0)] ?_; (with_reducible refine (qBA.calls k2 _ _ l0 ((qAH l1_2 x59_2).f0) t439 t440 true t442 t443 t444 t445 t446 _ ?side1 ?side2 A26.out).mono ?_); (case side1 => exact Kd.qAE HR0.out zb); (case side2 => exact HC0.out); rintro e w33 ⟨rfl, hb⟩; refine ⟨_, rfl, ?_⟩; replace BK434 := qA0.mk (qAL (g := gb434) (o := .cells #[.int .i64 a1_0, .slice A1_1 l1_1.length c1_1, .slice (some ad437) l1_2.length c1_2, .int .i64 a1_3] 27 (0, 0)) (by refine zf3 ?_ NB434_438; (with_reducible repeat refine st ?_); exact BK434.out) hb); replace BK438 := qA0.mk (qAL (zp3 BK438) hb); replace HB := zB hb; (try clear hb hk); (try clear hb)) | ((with_reducible refine qA9 (N := 10) rfl ?_); (try (refine qBD (by rfl) ?_; dsimp only)); refine boxZ 10 #[.string (⟨#[]⟩ : ByteArray), .int .i64 0, .bool false, .int .i64 0, .int .i64 0, .int .i64 0, .int .i64 0] 60 ?_; intro gb447 hg w34 hbox hb; have BK447 := qA0.mk (hbox); have GW447 := zg w gb447; have GE447 := zg w gb447; have NB434_447 := zl BK434 gb447; have NB447_434 := zu BK434 gb447; have NB438_447 := zl BK438 gb447; have NB447_438 := zu BK438 gb447; replace BK434 := zK BK434 hb; replace BK438 := zK BK438 hb; replace HB := zB hb; clear hb hbox hg; have hnb35 := NB447_434.out; have hnc35 := NB434_447.out; have hnb36 := NB447_438.out; have hnc36 := NB438_447.out; obtain ⟨hcz37_0, hcz37_1, hcz37_2, hcz37_3, hcz37_4, hcz37_5, hcz37_6, hfz37_0, hfz37_1, hfz37_2, hfz37_3, hfz37_4, hfz37_5, hfz37_6⟩ := bc7 BK447.out; obtain ⟨hcz38_0, hcz38_1, hcz38_2, hfz38_0, hfz38_1, hfz38_2⟩ := bc3 BK438.out))
 go_loopg [89] k2 (fun kq v89 w' => ∃ (x89_3 : Int), v89 = .int .i64 x89_3 ∧ qA0 (qAG.l1 kq l0 ((qAH l1_2 x59_2).f0) l1_2 (l1_2.length : Int) x59_2 ((qAH l1_2 x59_2).f1) (((qAH l1_2 x59_2).f1).length : Int) x89_3 ((qAH l1_2 x59_2).f0) ((qAH l1_2 x59_2).f1) ((qAH l1_2 x59_2).f2) t439 t440 true t442 t443 t444 t445 = some r) ∧ qA0 (kq ≤ k2) ∧ qA0 (w'.heap[gb434]? = some (.cells #[.int .i64 a1_0, (.slice A1_1 l1_1.length c1_1), (.slice (some ad437) l1_2.length c1_2), .int .i64 a1_3] 27 (0, 0))) ∧ qA0 (w'.heap[gb438]? = some (.cells #[.string ((qAH l1_2 x59_2).f0), (.slice A437_1 ((qAH l1_2 x59_2).f1).length c437_1), (.slice A437_2 ((qAH l1_2 x59_2).f2).length c437_2)] 56 (0, 0))) ∧ qA0 (w'.heap[gb447]? = some (.cells #[.string t439, .int .i64 t440, .bool true, .int .i64 t442, .int .i64 t443, .int .i64 t444, .int .i64 t445] 60 (0, 0))) ∧ qA0 (Below w.heap.size w w'))
 case atStart => exact ⟨(0), zs, H', ⟨Nat.le_refl _⟩, ⟨by refine zf7 ?_ NB434_447; (with_reducible repeat refine st ?_); exact BK434.out⟩, ⟨by refine zf7 ?_ NB438_447; (with_reducible repeat refine st ?_); exact BK438.out⟩, ⟨zp7 BK447⟩, ⟨zb⟩⟩
 clear H' c23b0 c24b0 c25b0 c28b0 c29b0 c29b1 c29b2 hcz32_0 hcz32_1 hcz32_2 hcz37_0 hcz37_1 hcz37_2 hcz37_3 hcz37_4 hcz37_5 hcz37_6 hcz38_0 hcz38_1 hcz38_2 hfz32_0 hfz32_1 hfz32_2 hfz37_0 hfz37_1 hfz37_2 hfz37_3 hfz37_4 hfz37_5 hfz37_6 hfz38_0 hfz38_1 hfz38_2 hx437_0 hx437_1 hx437_2 p437 q437
 obtain ⟨x89_3, rfl, HA, HK3, BK434, BK438, BK447, HB⟩ := hrel
 obtain _ | k3 := gk
 ·exact absurd HA.out (by simp [qAG.l1])
 have H := HA.out
 clear HA
 simp only [qAG.l1] at H
 by_cases c39 : x89_3 < (((qAH l1_2 x59_2).f1).length : Int)
 rotate_left
 ·rw [if_neg c39] at H
  have c39b0 := decide_eq_false c39
  clear c39
  replace H := zi H
  obtain ⟨t449, A530, H⟩ := H
  have A53 := qA0.mk A530
  clear A530
  by_cases c54 : t449 = 0
  rotate_left
  ·rw [if_neg c54] at H
   have ⟨c54b0, c54b1⟩ := zn c54
   obtain rfl := Option.some.inj H
   have hnb58 := NB438_434.out
   have hnc58 := NB434_438.out
   have hnb59 := NB438_447.out
   have hnc59 := NB447_438.out
   obtain ⟨hcz60_0, hcz60_1, hcz60_2, hfz60_0, hfz60_1, hfz60_2⟩ := bc3 BK438.out
   go_wp2_with (((with_reducible refine qA6 (f := 26) rfl ?_); refine qBP (some 106) Tryz.func26 #[.slice A437_2 ((qAH l1_2 x59_2).f2).length c437_2] ?_; (with_reducible refine (qAN.calls k3 _ _ ((qAH l1_2 x59_2).f2) t449 _ ?side1 ?side2 A53.out).mono ?_); (case side1 => repeat (first | exact (Kd.qAE HR437_2.out HB.out) | refine sC ?_)); (case side2 => exact HC437_2.out); rintro e w' ⟨rfl, ⟨nd, rfl⟩⟩; refine ⟨_, rfl, ?_⟩))
   go_ret
   exact ⟨zf, zb⟩
  rw [if_pos c54] at H
  have ⟨c54b0, c54b1⟩ := ze c54
  clear c54
  have H' := qA0.mk H
  clear H
  have hnb55 := NB438_434.out
  have hnc55 := NB434_438.out
  have hnb56 := NB438_447.out
  have hnc56 := NB447_438.out
  obtain ⟨hcz57_0, hcz57_1, hcz57_2, hfz57_0, hfz57_1, hfz57_2⟩ := bc3 BK438.out
  go_wp2_with (((with_reducible refine qA6 (f := 26) rfl ?_); refine qBP (some 106) Tryz.func26 #[.slice A437_2 ((qAH l1_2 x59_2).f2).length c437_2] ?_; (with_reducible refine (qAN.calls k3 _ _ ((qAH l1_2 x59_2).f2) t449 _ ?side1 ?side2 A53.out).mono ?_); (case side1 => repeat (first | exact (Kd.qAE HR437_2.out HB.out) | refine sC ?_)); (case side2 => exact HC437_2.out); rintro e w' ⟨rfl, ⟨nd, rfl⟩⟩; refine ⟨_, rfl, ?_⟩))
  go_roundg k3
  case measure => have := HJ4.out; have := HK2.out; have := HK3.out; omega
  case rel => exact ⟨(((qAH l1_2 x59_2).f0)), (wrap64 (x59_2 + 1)), zs, zs, H', ⟨by have := HJ4.out; have := HK2.out; have := HK3.out; omega⟩, ⟨zk BK434⟩, ⟨zb⟩⟩
 rw [if_pos c39] at H
 have c39b0 := decide_eq_true c39
 clear c39
 by_cases c40 : 0 ≤ x89_3
 rotate_left
 ·rw [if_neg c40] at H
  cases H
 rw [if_pos c40] at H
 have c40b0 := decide_eq_true c40
 clear c40
 by_cases c41 : x89_3 < (((qAH l1_2 x59_2).f1).length : Int)
 rotate_left
 ·rw [if_neg c41] at H
  cases H
 rw [if_pos c41] at H
 have c41b0 := decide_eq_true c41
 clear c41
 by_cases c42 : (rd ((qAH l1_2 x59_2).f1) x89_3) > t443
 ·rw [if_pos c42] at H
  have c42b0 := decide_eq_true c42
  clear c42
  obtain rfl := Option.some.inj H
  have p448 : 0 ≤ (x89_3 : Int) := zd
  have q448 : x89_3 < (((qAH l1_2 x59_2).f1).length : Int) := zd
  obtain ⟨ad448, e448, hx448_0⟩ := Kd.qC2 HR437_1.out x89_3 p448 q448
  cases e448
  (try replace hx448_0 := zh hx448_0)
  replace p448 := eq_true p448
  replace q448 := eq_true q448
  have hnb43 := NB447_434.out
  have hnc43 := NB434_447.out
  have hnb44 := NB447_438.out
  have hnc44 := NB438_447.out
  obtain ⟨hcz45_0, hcz45_1, hcz45_2, hcz45_3, hcz45_4, hcz45_5, hcz45_6, hfz45_0, hfz45_1, hfz45_2, hfz45_3, hfz45_4, hfz45_5, hfz45_6⟩ := bc7 BK447.out
  go_wp2
  go_ret
  exact ⟨zf, zb⟩
 rw [if_neg c42] at H
 have c42b0 := decide_eq_false c42
 clear c42
 by_cases c46 : (rd ((qAH l1_2 x59_2).f1) x89_3) < t442
 ·rw [if_pos c46] at H
  have c46b0 := decide_eq_true c46
  clear c46
  obtain rfl := Option.some.inj H
  have p448 : 0 ≤ (x89_3 : Int) := zd
  have q448 : x89_3 < (((qAH l1_2 x59_2).f1).length : Int) := zd
  obtain ⟨ad448, e448, hx448_0⟩ := Kd.qC2 HR437_1.out x89_3 p448 q448
  cases e448
  (try replace hx448_0 := zh hx448_0)
  replace p448 := eq_true p448
  replace q448 := eq_true q448
  have hnb47 := NB447_434.out
  have hnc47 := NB434_447.out
  have hnb48 := NB447_438.out
  have hnc48 := NB438_447.out
  obtain ⟨hcz49_0, hcz49_1, hcz49_2, hcz49_3, hcz49_4, hcz49_5, hcz49_6, hfz49_0, hfz49_1, hfz49_2, hfz49_3, hfz49_4, hfz49_5, hfz49_6⟩ := bc7 BK447.out
  go_wp2
  go_ret
  exact ⟨zf, zb⟩
 rw [if_neg c46] at H
 have c46b0 := decide_eq_false c46
 clear c46
 have H' := qA0.mk H
 clear H
 have p448 : 0 ≤ (x89_3 : Int) := zd
 have q448 : x89_3 < (((qAH l1_2 x59_2).f1).length : Int) := zd
 obtain ⟨ad448, e448, hx448_0⟩ := Kd.qC2 HR437_1.out x89_3 p448 q448
 cases e448
 (try replace hx448_0 := zh hx448_0)
 replace p448 := eq_true p448
 replace q448 := eq_true q448
 have hnb50 := NB447_434.out
 have hnc50 := NB434_447.out
 have hnb51 := NB447_438.out
 have hnc51 := NB438_447.out
 obtain ⟨hcz52_0, hcz52_1, hcz52_2, hcz52_3, hcz52_4, hcz52_5, hcz52_6, hfz52_0, hfz52_1, hfz52_2, hfz52_3, hfz52_4, hfz52_5, hfz52_6⟩ := bc7 BK447.out
 go_wp2
 go_roundg k3
 case measure => have := HJ4.out; have := HK2.out; have := HK3.out; omega
 case rel => exact ⟨(wrap64 (x89_3 + 1)), zs, H', ⟨by have := HJ4.out; have := HK2.out; have := HK3.out; omega⟩, ⟨zk BK434⟩, ⟨zk BK438⟩, ⟨zk BK447⟩, ⟨zb⟩⟩
end
end Go.Proofs.YtpafpefealopoaaGreat.PPopMakes
end
