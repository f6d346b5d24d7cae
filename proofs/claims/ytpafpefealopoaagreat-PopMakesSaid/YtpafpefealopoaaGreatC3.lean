/- A part of the proof of PopMakes: texts that were printed, words, walks. No condition. -/
import Derived.Test.YtpafpefealopoaaGreatC1
import Derived.Test.YtpafpefealopoaaGreatC2
set_option linter.unusedVariables false
set_option linter.unusedSimpArgs false
section
namespace Go.Proofs.YtpafpefealopoaaGreat.PPopMakes
noncomputable section
open Go.RowKit Go.Proofs.YtpafpefealopoaaGreatW.PrintWords Go.Proofs.YtpafpefealopoaaGreatW.PrintLast Go.Proofs.YtpafpefealopoaaGreatW.PrintMore
set_option maxHeartbeats 8000000
set_option maxRecDepth 100000
def attrF (x : S60) : Option Int := qC1.f 10 x.f0 x.f1 x.f2 x.f3 x.f4 x.f5.f0 x.f5.f1
def tableF (t : S95) : Option Int := qBB.f 50 t.f0 t.f1 t.f2 t.f3 t.f4
def qE3 {α : Type} (nm : α → ByteArray) (ck : α → Option Int) : List α → List ByteArray → Option (Int × List ByteArray)
 | [], L => some (0, L)
 | x :: xs, L => if L.length < 1000000 then (if addR L (nm x) ≠ 0 then some (addR L (nm x), L) else (ck x).bind fun e => if e ≠ 0 then some (e, L) else qE3 nm ck xs (nm x :: L)) else none
def qBL.k2 (a : S76) (next : List ByteArray → Option Int) (q : Int × List ByteArray) : Option Int := if q.1 ≠ 0 then some q.1 else next q.2
def qBL.k1 (a : S76) (B : List ByteArray) (next : List ByteArray → List ByteArray → Option Int) (p : Int × List ByteArray) : Option Int := if p.1 ≠ 0 then some p.1 else (qE3 (fun t : S95 => t.f0) tableF a.f4 B).bind (qBL.k2 a (next p.2))
def qBL.go : List S76 → List ByteArray → List ByteArray → List ByteArray → Option Int
 | [], _, _, _ => some 0
 | a :: r, A, T, B => if A.length < 1000000 then (if addR A a.f0 ≠ 0 then some (addR A a.f0) else if a.f1 < 0 ∨ 9 < a.f1 ∨ a.f2 < 0 ∨ 1048575 < a.f2 then some 1 else (qE3 (fun x : S60 => x.f0) attrF a.f3 T).bind (qBL.k1 a B fun T' B' => qBL.go r (a.f0 :: A) T' B')) else none
def qBL.f (l0 : List S76) : Option Int := qBL.go l0 [] [] []
structure PInv (w W : World) (A T B : List ByteArray) : Prop where
 hB : Below w.heap.size w W
 hA : Names W w.heap.size A
 hT : Names W (w.heap.size + 1) T
 hN : Names W (w.heap.size + 1 + 1) B
theorem PInv.below {w W W' : World} {A T B : List ByteArray} (h : PInv w W A T B) (hb : Below W.heap.size W W') : PInv w W' A T B := ⟨qBZ h.hB hb, h.hA.below hb, h.hT.below hb, h.hN.below hb⟩
theorem PInv.putA {w W W' : World} {A T B A' : List ByteArray} (h : PInv w W A T B) (hg : W.grownBy W' (some w.heap.size)) (hn : Names W' w.heap.size A') : PInv w W' A' T B :=
 ⟨qBY h.hB (some w.heap.size) h.hB.size hg (fun k e => by obtain rfl := Option.some.inj e; exact Nat.le_refl _), hn, h.hT.kept hg (by simp), h.hN.kept hg (by simp; omega)⟩
theorem PInv.putT {w W W' : World} {A T B T' : List ByteArray} (h : PInv w W A T B) (hg : W.grownBy W' (some (w.heap.size + 1))) (hn : Names W' (w.heap.size + 1) T') : PInv w W' A T' B :=
 ⟨qBY h.hB (some (w.heap.size + 1)) h.hB.size hg (fun k e => by obtain rfl := Option.some.inj e; omega), h.hA.kept hg (by simp), hn, h.hN.kept hg (by simp)⟩
theorem PInv.putB {w W W' : World} {A T B B' : List ByteArray} (h : PInv w W A T B) (hg : W.grownBy W' (some (w.heap.size + 1 + 1))) (hn : Names W' (w.heap.size + 1 + 1) B') : PInv w W' A T B' :=
 ⟨qBY h.hB (some (w.heap.size + 1 + 1)) h.hB.size hg (fun k e => by obtain rfl := Option.some.inj e; omega), h.hA.kept hg (by simp; omega), h.hT.kept hg (by simp), hn⟩
theorem qBL.calls (A0 : Option Addr) (c0 : Nat) (l0 : List (S76)) (r : Int) (w : World) (hr0 : Kd.C k76 w A0 l0.length l0) (hc0 : l0.length ≤ c0) (h : qBL.f l0 = some r) :
  Calls Tryz.prog 48 #[.slice A0 l0.length c0] w fun e w' => e = .returned (.int .i64 r) ∧ Below w.heap.size w w' := by
 have HR := qA0.mk hr0
 have HC := qA0.mk hc0
 have H0 := qA0.mk h
 have hm : l0.length ≤ 9223372036854775807 := Kd.C_max hr0
 clear hr0 hc0 h
 generalize hW0 : ((w.alloc (.map #[] 0)).alloc (.map #[] 0)).alloc (.map #[] 0) = W0
 have HP0 : PInv w W0 [] [] [] := by
  rw [← hW0]
  have b1 : Below w.heap.size w (w.alloc (.map #[] 0)) := qAC (Below.refl _ _) _
  have b2 : Below (w.alloc (.map #[] 0)).heap.size (w.alloc (.map #[] 0)) ((w.alloc (.map #[] 0)).alloc (.map #[] 0)) := qAC (Below.refl _ _) _
  have b3 : Below ((w.alloc (.map #[] 0)).alloc (.map #[] 0)).heap.size ((w.alloc (.map #[] 0)).alloc (.map #[] 0)) (((w.alloc (.map #[] 0)).alloc (.map #[] 0)).alloc (.map #[] 0)) := qAC (Below.refl _ _) _
  have n2 := Names.made (w.alloc (.map #[] 0))
  have n3 := Names.made ((w.alloc (.map #[] 0)).alloc (.map #[] 0))
  rw [show (w.alloc (.map #[] 0)).heap.size = w.heap.size + 1 from by simp] at n2
  rw [show ((w.alloc (.map #[] 0)).alloc (.map #[] 0)).heap.size = w.heap.size + 1 + 1 from by simp] at n3
  exact ⟨qBZ (qBZ b1 b2) b3, ((Names.made w).below b2).below b3, n2.below b3, n3⟩
 have HW0 := qA0.mk hW0
 have HP := qA0.mk HP0
 clear hW0 HP0
 have hmm := @run_makeMap Tryz.prog
 go_enter Tryz.func48, Tryz.ntmps48
 go_wp2_with fail
 rw [HW0.out]
 clear HW0
 go_loopw [22] (fun v22 wr => ∃ (i : Nat) (A T B : List ByteArray), i ≤ l0.length ∧ v22 = .int .i64 (i : Int) ∧ qA0 (qBL.go (l0.drop i) A T B = some r) ∧ qA0 (PInv w wr A T B)) (fun v22 _ => l0.length - (RowKit.intOf v22).toNat)
 case atStart => exact ⟨0, [], [], [], by omega, rfl, ⟨by simpa [qBL.f] using H0.out⟩, HP⟩
 clear H0 HP
 obtain ⟨i, A, T, B, hi, rfl, HG, HP⟩ := hrel
 by_cases hlt : i < l0.length
 rotate_left
 ·obtain rfl : i = l0.length := by omega
  have hr : r = 0 := by have := HG.out; rw [List.drop_length] at this; simp only [qBL.go] at this; exact (Option.some.inj this).symm
  subst hr
  go_wp2_with fail
  go_ret
  exact ⟨rfl, HP.out.hB⟩
 obtain ⟨ad, A3, c3, A4, c4, A5, c5, e0, hx0, hx1, hx2, hx3, hx4, hx5, hl3, hi3, hl4, hi4, hl5, hi5⟩ := at_T76 HR.out (i : Int) (by omega) (by omega)
 cases e0
 simp only [Int.toNat_natCast] at hx0 hx1 hx2 hx3 hx4 hx5
 have hB := HP.out.hB
 replace hx0 := (hB.cell (World.block_lt_of_cell? w _ hx0)).trans hx0
 replace hx1 := (hB.cell (World.block_lt_of_cell? w _ hx1)).trans hx1
 replace hx2 := (hB.cell (World.block_lt_of_cell? w _ hx2)).trans hx2
 replace hx3 := (hB.cell (World.block_lt_of_cell? w _ hx3)).trans hx3
 replace hx4 := (hB.cell (World.block_lt_of_cell? w _ hx4)).trans hx4
 replace hx5 := (hB.cell (World.block_lt_of_cell? w _ hx5)).trans hx5
 have hd : l0.drop i = qAB l0 (i : Int) :: l0.drop (i + 1) := by rw [List.drop_eq_getElem_cons hlt]; simp [qAB, hlt]
 have hG := HG.out
 rw [hd] at hG
 generalize qAB l0 (i : Int) = a at *
 simp only [qBL.go] at hG
 have HG' := qA0.mk hG
 have HI3 := qA0.mk (And.intro hl3 hi3)
 have HI4 := qA0.mk (And.intro hl4 hi4)
 have HI5 := qA0.mk (And.intro hl5 hi5)
 clear hG HG hd hl3 hi3 hl4 hi4 hl5 hi5 hB
 by_cases hal : A.length < 1000000
 case neg => have := HG'.out; rw [if_neg hal] at this; cases this
 have HG1 := qA0.mk (by have := HG'.out; rwa [if_pos hal] at this)
 have hs := Gen.qEC hlt hm
 clear HG'
 obtain ⟨wo, rfl⟩ : ∃ wo : World, wo = wr := ⟨_, rfl⟩
 generalize hW1 : wo.alloc (.cells #[.string a.f0, .int .i64 a.f1, .int .i64 a.f2, .slice A3 a.f3.length c3, .slice A4 a.f4.length c4, .slice A5 a.f5.length c5] 76) = W1
 have hB1 : Below wo.heap.size wo W1 := by rw [← hW1]; exact qAC (Below.refl _ _) _
 have hK1 : W1.heap[wo.heap.size]? = some (.cells #[.string a.f0, .int .i64 a.f1, .int .i64 a.f2, .slice A3 a.f3.length c3, .slice A4 a.f4.length c4, .slice A5 a.f5.length c5] 76 (0, 0)) := by rw [← hW1]; exact heap_alloc_new _ _
 have HW1 := qA0.mk hW1
 have HP1 := qA0.mk (HP.out.below hB1)
 have HK1 := qA0.mk hK1
 have hpw : w.heap.size + 1 + 1 < wo.heap.size := HP.out.hN.lt
 clear hW1 hB1 hK1 HP
 go_wp2_with fail
 rw [HW1.out]
 refine (names_add.walk w.heap.size A a.f0 W1 HP1.out.hA (by simp only [maxLen]; omega)).mono ?_
 rintro e W2 ⟨rfl, hn, hg⟩
 have HK2 := qA0.mk (qAO HK1.out hg (by simp; omega))
 have HP2 := qA0.mk (HP1.out.putA hg hn)
 clear hn hg HK1 HP1 HW1 hx0 hx1 hx2 hx3 hx4 hx5
 generalize addR A a.f0 = e1 at *
 by_cases c1 : e1 = 0
 case neg =>
  have hr : r = e1 := by have := HG1.out; rw [if_pos c1] at this; exact (Option.some.inj this).symm
  subst hr
  have c1b : (r != 0) = true := bne_iff_ne.mpr c1
  clear c1
  go_wp2_with fail
  go_ret
  exact ⟨rfl, HP2.out.hB⟩
 subst c1
 have HG2 := qA0.mk (by have := HG1.out; rwa [if_neg (by simp)] at this)
 rw [if_pos rfl] at HP2
 clear HG1 hal
 have k0 := (qA1 HK2.out 0).trans rfl
 have k1 := (qA1 HK2.out 1).trans rfl
 have k2 := (qA1 HK2.out 2).trans rfl
 have k3 := (qA1 HK2.out 3).trans rfl
 by_cases d1 : a.f1 < 0
 ·have hr : r = 1 := by have := HG2.out; rw [if_pos (.inl d1)] at this; exact (Option.some.inj this).symm
  subst hr
  have d1b : decide (a.f1 < 0) = true := decide_eq_true d1
  clear d1
  go_wp2_with fail
  go_ret
  exact ⟨rfl, HP2.out.hB⟩
 have d1b : decide (a.f1 < 0) = false := decide_eq_false d1
 by_cases d2 : 9 < a.f1
 ·have hr : r = 1 := by have := HG2.out; rw [if_pos (.inr (.inl d2))] at this; exact (Option.some.inj this).symm
  subst hr
  have d2b : decide (9 < a.f1) = true := decide_eq_true d2
  clear d1 d2
  go_wp2_with fail
  go_ret
  exact ⟨rfl, HP2.out.hB⟩
 have d2b : decide (9 < a.f1) = false := decide_eq_false d2
 by_cases d3 : a.f2 < 0
 ·have hr : r = 1 := by have := HG2.out; rw [if_pos (.inr (.inr (.inl d3)))] at this; exact (Option.some.inj this).symm
  subst hr
  have d3b : decide (a.f2 < 0) = true := decide_eq_true d3
  clear d1 d2 d3
  go_wp2_with fail
  go_ret
  exact ⟨rfl, HP2.out.hB⟩
 have d3b : decide (a.f2 < 0) = false := decide_eq_false d3
 by_cases d4 : 1048575 < a.f2
 ·have hr : r = 1 := by have := HG2.out; rw [if_pos (.inr (.inr (.inr d4)))] at this; exact (Option.some.inj this).symm
  subst hr
  have d4b : decide (1048575 < a.f2) = true := decide_eq_true d4
  clear d1 d2 d3 d4
  go_wp2_with fail
  go_ret
  exact ⟨rfl, HP2.out.hB⟩
 have d4b : decide (1048575 < a.f2) = false := decide_eq_false d4
 have HG3 := qA0.mk (by have := HG2.out; rwa [if_neg (by omega)] at this)
 clear d1 d2 d3 d4 HG2
 have hm3 := Kd.C_max HI3.out.2
 have hm4 := Kd.C_max HI4.out.2
 have HS := qA0.mk hs
 clear hs
 go_wp2_with fail
 clear d1b d2b d3b d4b k0 k1 k2 k3
 go_loopw [54] (fun v54 wx => ∃ (j : Nat) (T' : List ByteArray), j ≤ a.f3.length ∧ v54 = .int .i64 (j : Int) ∧ qA0 ((qE3 (fun x : S60 => x.f0) attrF (a.f3.drop j) T').bind (qBL.k1 a B fun T' B' => qBL.go (l0.drop (i + 1)) (a.f0 :: A) T' B') = some r) ∧ qA0 (PInv w wx (a.f0 :: A) T' B) ∧ qA0 (wx.heap[wo.heap.size]? = some (.cells #[.string a.f0, .int .i64 a.f1, .int .i64 a.f2, .slice A3 a.f3.length c3, .slice A4 a.f4.length c4, .slice A5 a.f5.length c5] 76 (0, 0)))) (fun v54 _ => a.f3.length - (RowKit.intOf v54).toNat)
 case atStart => exact ⟨0, T, by omega, rfl, ⟨by simpa using HG3.out⟩, HP2, HK2⟩
 clear HG3 HP2 HK2
 obtain ⟨j, T', hj, rfl, HG4, HP4, HK4⟩ := hrel
 by_cases hjl : j < a.f3.length
 ·obtain ⟨ad3, e3, y0, y1, y2, y3, y4, y5, y6⟩ := at_T60 HI3.out.2 (j : Int) (by omega) (by omega)
  cases e3
  simp only [Int.toNat_natCast] at y0 y1 y2 y3 y4 y5 y6
  have hB := HP4.out.hB
  replace y0 := (hB.cell (World.block_lt_of_cell? w _ y0)).trans y0
  replace y1 := (hB.cell (World.block_lt_of_cell? w _ y1)).trans y1
  replace y2 := (hB.cell (World.block_lt_of_cell? w _ y2)).trans y2
  replace y3 := (hB.cell (World.block_lt_of_cell? w _ y3)).trans y3
  replace y4 := (hB.cell (World.block_lt_of_cell? w _ y4)).trans y4
  replace y5 := (hB.cell (World.block_lt_of_cell? w _ y5)).trans y5
  replace y6 := (hB.cell (World.block_lt_of_cell? w _ y6)).trans y6
  have hd : a.f3.drop j = qBH a.f3 (j : Int) :: a.f3.drop (j + 1) := by rw [List.drop_eq_getElem_cons hjl]; simp [qBH, hjl]
  have hG := HG4.out
  rw [hd] at hG
  generalize qBH a.f3 (j : Int) = x at hG y0 y1 y2 y3 y4 y5 y6
  simp only [qE3] at hG
  have hs := Gen.qEC hjl hm3
  by_cases hal : T'.length < 1000000
  case neg => rw [if_neg hal] at hG; cases hG
  rw [if_pos hal] at hG
  have HG5 := qA0.mk hG
  clear hG HG4 hd hB
  obtain ⟨wi, rfl⟩ : ∃ wi : World, wi = wr := ⟨_, rfl⟩
  generalize hW5 : wi.alloc (.cells #[.string x.f0, .int .i64 x.f1, .bool x.f2, .int .i64 x.f3, .int .i64 x.f4, .int .i64 x.f5.f0, .int .i64 x.f5.f1] 60) = W5
  have hB5 : Below wi.heap.size wi W5 := by rw [← hW5]; exact qAC (Below.refl _ _) _
  have hK5 : W5.heap[wi.heap.size]? = some (.cells #[.string x.f0, .int .i64 x.f1, .bool x.f2, .int .i64 x.f3, .int .i64 x.f4, .int .i64 x.f5.f0, .int .i64 x.f5.f1] 60 (0, 0)) := by rw [← hW5]; exact heap_alloc_new _ _
  have HW5 := qA0.mk hW5
  have HP5 := qA0.mk (HP4.out.below hB5)
  have HK5 := qA0.mk hK5
  have HKo5 := qA0.mk (qAO HK4.out (qB9 hB5 none) (by simp))
  have hpi : w.heap.size + 1 + 1 < wi.heap.size := HP4.out.hN.lt
  have hpo : w.heap.size + 1 + 1 < wo.heap.size := hpw
  clear hW5 hB5 hK5 HP4 HK4
  go_wp2_with fail
  rw [HW5.out]
  refine (names_add.walk (w.heap.size + 1) T' x.f0 W5 HP5.out.hT (by simp only [maxLen]; omega)).mono ?_
  rintro e W6 ⟨rfl, hn, hg⟩
  have HK6 := qA0.mk (qAO HK5.out hg (by simp; omega))
  have HKo6 := qA0.mk (qAO HKo5.out hg (by simp; omega))
  have HP6 := qA0.mk (HP5.out.putT hg hn)
  clear hn hg HK5 HKo5 HP5 HW5 y0 y1 y2 y3 y4 y5 y6
  generalize addR T' x.f0 = e1 at *
  by_cases c1 : e1 = 0
  case neg =>
   have hr : r = e1 := by have := HG5.out; rw [if_pos c1, Option.bind_some] at this; simp only [qBL.k1] at this; rw [if_pos c1] at this; exact (Option.some.inj this).symm
   subst hr
   have c1b : (r != 0) = true := bne_iff_ne.mpr c1
   clear c1
   go_wp2_with fail
   go_ret
   exact ⟨rfl, HP6.out.hB⟩
  subst c1
  rw [if_pos rfl] at HP6
  have hG6 := HG5.out
  rw [if_neg (by simp)] at hG6
  obtain ⟨q, hq, hK⟩ := Option.bind_eq_some_iff.mp hG6
  obtain ⟨ee, he, hF⟩ := Option.bind_eq_some_iff.mp hq
  have HE := qA0.mk he
  have HF := qA0.mk (And.intro hF hK)
  clear hG6 hq he hF hK HG5 hal
  have k0 := (qA1 HK6.out 0).trans rfl
  have k1 := (qA1 HK6.out 1).trans rfl
  have k2 := (qA1 HK6.out 2).trans rfl
  have k3 := (qA1 HK6.out 3).trans rfl
  have k4 := (qA1 HK6.out 4).trans rfl
  have k5 := (qA1 HK6.out 5).trans rfl
  have k6 := (qA1 HK6.out 6).trans rfl
  go_wp2_with fail
  refine (qC1.calls 10 x.f0 x.f1 x.f2 x.f3 x.f4 x.f5.f0 x.f5.f1 ee W6 HE.out).mono ?_
  rintro e W7 ⟨rfl, hb⟩
  have HP7 := qA0.mk (HP6.out.below hb)
  have HK7 := qA0.mk (qAO HKo6.out (qB9 hb none) (by simp))
  clear hb HP6 HK6 HKo6 k0 k1 k2 k3 k4 k5 k6
  by_cases c2 : ee = 0
  ·have c2b : (ee != 0) = false := bne_eq_false_iff_eq.mpr c2
   have HG8 := qA0.mk (by have := HF.out.1; rw [if_neg (by simpa using c2)] at this; exact Option.bind_eq_some_iff.mpr ⟨q, this, HF.out.2⟩)
   clear c2 HF
   go_wp2_with fail
   go_roundw
   case rel => exact ⟨j + 1, x.f0 :: T', by omega, by first | rfl | (simp; done) | rw [Int.natCast_add]; rfl, HG8, HP7, HK7⟩
   case measure => simp [RowKit.intOf]; omega
  have hr : r = ee := by
   have := HF.out.1
   rw [if_pos (by simpa using c2)] at this
   have h2 := HF.out.2
   rw [← Option.some.inj this] at h2
   simp only [qBL.k1] at h2
   rw [if_pos c2] at h2
   exact (Option.some.inj h2).symm
  subst hr
  have c2b : (r != 0) = true := bne_iff_ne.mpr c2
  clear c2
  go_wp2_with fail
  go_ret
  exact ⟨rfl, HP7.out.hB⟩
 obtain rfl : j = a.f3.length := by omega
 have HG5 := qA0.mk (by have := HG4.out; rw [List.drop_length] at this; simpa [qE3, qBL.k1] using this)
 clear HG4 hj
 have k4 := (qA1 HK4.out 4).trans rfl
 go_wp2_with fail
 clear k4
 go_loopw [74] (fun v74 wx => ∃ (j : Nat) (T'' : List ByteArray), j ≤ a.f4.length ∧ v74 = .int .i64 (j : Int) ∧ qA0 ((qE3 (fun t : S95 => t.f0) tableF (a.f4.drop j) T'').bind (qBL.k2 a ((fun T' B' => qBL.go (l0.drop (i + 1)) (a.f0 :: A) T' B') T')) = some r) ∧ qA0 (PInv w wx (a.f0 :: A) T' T'') ∧ qA0 (wx.heap[wo.heap.size]? = some (.cells #[.string a.f0, .int .i64 a.f1, .int .i64 a.f2, .slice A3 a.f3.length c3, .slice A4 a.f4.length c4, .slice A5 a.f5.length c5] 76 (0, 0)))) (fun v74 _ => a.f4.length - (RowKit.intOf v74).toNat)
 case atStart => exact ⟨0, B, by omega, rfl, ⟨by simpa using HG5.out⟩, HP4, HK4⟩
 clear HG5 HP4 HK4
 obtain ⟨T1, rfl⟩ : ∃ T1, T1 = T' := ⟨_, rfl⟩
 obtain ⟨j, T', hj, rfl, HG6, HP9, HK9⟩ := hrel
 by_cases hjl : j < a.f4.length
 rotate_left
 ·obtain rfl : j = a.f4.length := by omega
  have HG7 := qA0.mk (by have := HG6.out; rw [List.drop_length] at this; simpa [qE3, qBL.k2] using this)
  clear HG6 hj
  have hsn := HS.out
  go_wp2_with fail
  go_roundw
  case rel => exact ⟨i + 1, a.f0 :: A, T1, T', by omega, by first | rfl | (simp; done) | rw [Int.natCast_add]; rfl, HG7, HP9⟩
  case measure => simp [RowKit.intOf]; omega
 obtain ⟨ad4, A44, c44, e4, y0, y1, y2, y3, y4, hl44, hi44⟩ := at_T95 HI4.out.2 (j : Int) (by omega) (by omega)
 cases e4
 simp only [Int.toNat_natCast] at y0 y1 y2 y3 y4
 have hB := HP9.out.hB
 replace y0 := (hB.cell (World.block_lt_of_cell? w _ y0)).trans y0
 replace y1 := (hB.cell (World.block_lt_of_cell? w _ y1)).trans y1
 replace y2 := (hB.cell (World.block_lt_of_cell? w _ y2)).trans y2
 replace y3 := (hB.cell (World.block_lt_of_cell? w _ y3)).trans y3
 replace y4 := (hB.cell (World.block_lt_of_cell? w _ y4)).trans y4
 have hd : a.f4.drop j = qBS a.f4 (j : Int) :: a.f4.drop (j + 1) := by rw [List.drop_eq_getElem_cons hjl]; simp [qBS, hjl]
 have hG := HG6.out
 rw [hd] at hG
 generalize qBS a.f4 (j : Int) = x at hG y0 y1 y2 y3 y4 hl44 hi44
 have HI44 := qA0.mk (And.intro hl44 hi44)
 clear hl44 hi44
 simp only [qE3] at hG
 have hs := Gen.qEC hjl hm4
 by_cases hal : T'.length < 1000000
 case neg => rw [if_neg hal] at hG; cases hG
 rw [if_pos hal] at hG
 have HG7 := qA0.mk hG
 clear hG HG6 hd hB
 obtain ⟨wj, rfl⟩ : ∃ wj : World, wj = wr := ⟨_, rfl⟩
 generalize hW5 : wj.alloc (.cells #[.string x.f0, .int .i64 x.f1, .int .i64 x.f2, .bool x.f3, .slice A44 x.f4.length c44] 95) = W5
 have hB5 : Below wj.heap.size wj W5 := by rw [← hW5]; exact qAC (Below.refl _ _) _
 have hK5 : W5.heap[wj.heap.size]? = some (.cells #[.string x.f0, .int .i64 x.f1, .int .i64 x.f2, .bool x.f3, .slice A44 x.f4.length c44] 95 (0, 0)) := by rw [← hW5]; exact heap_alloc_new _ _
 have HW5 := qA0.mk hW5
 have HP5 := qA0.mk (HP9.out.below hB5)
 have HK5 := qA0.mk hK5
 have HKo5 := qA0.mk (qAO HK9.out (qB9 hB5 none) (by simp))
 have hpi : w.heap.size + 1 + 1 < wj.heap.size := HP9.out.hN.lt
 have hpo : w.heap.size + 1 + 1 < wo.heap.size := hpw
 clear hW5 hB5 hK5 HP9 HK9
 go_wp2_with fail
 rw [HW5.out]
 refine (names_add.walk (w.heap.size + 1 + 1) T' x.f0 W5 HP5.out.hN (by simp only [maxLen]; omega)).mono ?_
 rintro e W6 ⟨rfl, hn, hg⟩
 have HK6 := qA0.mk (qAO HK5.out hg (by simp; omega))
 have HKo6 := qA0.mk (qAO HKo5.out hg (by simp; omega))
 have HP6 := qA0.mk (HP5.out.putB hg hn)
 clear hn hg HK5 HKo5 HP5 HW5 y0 y1 y2 y3 y4
 generalize addR T' x.f0 = e1 at *
 by_cases c1 : e1 = 0
 case neg =>
  have hr : r = e1 := by have := HG7.out; rw [if_pos c1, Option.bind_some] at this; simp only [qBL.k2] at this; rw [if_pos c1] at this; exact (Option.some.inj this).symm
  subst hr
  have c1b : (r != 0) = true := bne_iff_ne.mpr c1
  clear c1
  go_wp2_with fail
  go_ret
  exact ⟨rfl, HP6.out.hB⟩
 subst c1
 rw [if_pos rfl] at HP6
 have hG6 := HG7.out
 rw [if_neg (by simp)] at hG6
 obtain ⟨q, hq, hK⟩ := Option.bind_eq_some_iff.mp hG6
 obtain ⟨ee, he, hF⟩ := Option.bind_eq_some_iff.mp hq
 have HE := qA0.mk he
 have HF := qA0.mk (And.intro hF hK)
 clear hG6 hq he hF hK HG7 hal
 have k0 := (qA1 HK6.out 0).trans rfl
 have k1 := (qA1 HK6.out 1).trans rfl
 have k2 := (qA1 HK6.out 2).trans rfl
 have k3 := (qA1 HK6.out 3).trans rfl
 have k4 := (qA1 HK6.out 4).trans rfl
 go_wp2_with fail
 refine (qBB.calls 50 x.f0 x.f1 x.f2 x.f3 A44 c44 x.f4 ee W6 (Kd.qAE HI44.out.2 HP6.out.hB) HI44.out.1 HE.out).mono ?_
 rintro e W7 ⟨rfl, hb⟩
 have HP7 := qA0.mk (HP6.out.below hb)
 have HK7 := qA0.mk (qAO HKo6.out (qB9 hb none) (by simp))
 clear hb HP6 HK6 HKo6 k0 k1 k2 k3 k4
 by_cases c2 : ee = 0
 ·have c2b : (ee != 0) = false := bne_eq_false_iff_eq.mpr c2
  have HG8 := qA0.mk (by have := HF.out.1; rw [if_neg (by simpa using c2)] at this; exact Option.bind_eq_some_iff.mpr ⟨q, this, HF.out.2⟩)
  clear c2 HF
  go_wp2_with fail
  go_roundw
  case rel => exact ⟨j + 1, x.f0 :: T', by omega, by first | rfl | (simp; done) | rw [Int.natCast_add]; rfl, HG8, HP7, HK7⟩
  case measure => simp [RowKit.intOf]; omega
 have hr : r = ee := by
  have := HF.out.1
  rw [if_pos (by simpa using c2)] at this
  have h2 := HF.out.2
  rw [← Option.some.inj this] at h2
  simp only [qBL.k2] at h2
  rw [if_pos c2] at h2
  exact (Option.some.inj h2).symm
 subst hr
 have c2b : (r != 0) = true := bne_iff_ne.mpr c2
 clear c2
 go_wp2_with fail
 go_ret
 exact ⟨rfl, HP7.out.hB⟩
mutual
def qAR.l0 : Nat → ByteArray → List (S76) → Int → Int → Option (ByteArray × Int × Bool × Int × Int × Int × Int × Bool)
 | 0, _, _, _, _ => none
 | k + 1, x1, x10, x11, x12 => if x12 < x11 then (if 0 ≤ x12 then (if x12 < (x10.length : Int) then (qAR.l1 k x1 x10 x11 x12 ((qAB x10 x12).f3) (((qAB x10 x12).f3).length : Int) 0) else (none)) else (none)) else (some ((⟨#[]⟩ : ByteArray), 0, false, 0, 0, 0, 0, false))
def qAR.l1 : Nat → ByteArray → List (S76) → Int → Int → List (S60) → Int → Int → Option (ByteArray × Int × Bool × Int × Int × Int × Int × Bool)
 | 0, _, _, _, _, _, _, _ => none
 | k + 1, x1, x10, x11, x12, x17, x18, x19 => if x19 < x18 then (if 0 ≤ x19 then (if x19 < (x17.length : Int) then (if ((qBH x17 x19).f0).toList = x1.toList then (some ((qBH x17 x19).f0, (qBH x17 x19).f1, (qBH x17 x19).f2, (qBH x17 x19).f3, (qBH x17 x19).f4, (qBH x17 x19).f5.f0, (qBH x17 x19).f5.f1, true)) else (qAR.l1 k x1 x10 x11 x12 x17 x18 (wrap64 (x19 + 1)))) else (none)) else (none)) else (qAR.l0 k x1 x10 x11 (wrap64 (x12 + 1)))
end
def qAR.f (k : Nat) (l0 : List (S76)) (a1 : ByteArray) : Option (ByteArray × Int × Bool × Int × Int × Int × Int × Bool) := qAR.l0 k a1 l0 (l0.length : Int) 0
theorem qAR.qC6 : ∀ k, (∀ y0 y1 y2 y3, LeO (qAR.l0 k y0 y1 y2 y3) (qAR.l0 (k + 1) y0 y1 y2 y3)) ∧ (∀ y0 y1 y2 y3 y4 y5 y6, LeO (qAR.l1 k y0 y1 y2 y3 y4 y5 y6) (qAR.l1 (k + 1) y0 y1 y2 y3 y4 y5 y6))
 | 0 => ⟨fun _ _ _ _ r h => by simp [qAR.l0] at h, fun _ _ _ _ _ _ _ r h => by simp [qAR.l1] at h⟩
 | k + 1 => by
  obtain ⟨ih0, ih1⟩ := qAR.qC6 k
  refine ⟨?_, ?_⟩
  ·intro y0 y1 y2 y3
   unfold qAR.l0
   exact zm
  ·intro y0 y1 y2 y3 y4 y5 y6
   unfold qAR.l1
   exact zm
theorem qAR.mono : ∀ a0 a1 k, LeO (qAR.f k a0 a1) (qAR.f (k + 1) a0 a1) := by
 intro a0 a1 k
 obtain ⟨ih0, ih1⟩ := qAR.qC6 k
 unfold qAR.f
 exact zm
theorem qAR.calls (k : Nat) (A0 : Option Addr) (c0 : Nat) (l0 : List (S76)) (a1 : ByteArray) (r1 : ByteArray) (r2 : Int) (r3 : Bool) (r4 : Int) (r5 : Int) (r6 : Int) (r7 : Int) (r8 : Bool) (w : World) (hr0 : Kd.C k76 w A0 l0.length l0) (hc0 : l0.length ≤ c0) (h : qAR.f k l0 a1 = some (r1, r2, r3, r4, r5, r6, r7, r8)) :
  Calls Tryz.prog 23 #[.slice A0 l0.length c0, .string a1] w fun e w' => e = .returned (.tuple #[.agg #[.string r1, .int .i64 r2, .bool r3, .int .i64 r4, .int .i64 r5, .int .i64 r6, .int .i64 r7], .bool r8]) ∧ Below w.heap.size w w' := by
 have hu60 := Tryz.underlying60
 have hu76 := Tryz.underlying76
 have HR0 := qA0.mk hr0
 have HC0 := qA0.mk hc0
 clear hr0 hc0
 have HB := qA0.mk (Below.refl w.heap.size w)
 have H := h
 unfold qAR.f at H
 clear h
 have H' := qA0.mk H
 clear H
 go_enter Tryz.func23, Tryz.ntmps23
 go_wp2_with (((with_reducible refine qA9 (N := 4) rfl ?_); refine boxZ 4 #[.string (⟨#[]⟩ : ByteArray), .int .i64 0, .bool false, .int .i64 0, .int .i64 0, .int .i64 0, .int .i64 0] 60 ?_; intro gb145 hg w3 hbox hb; have BK145 := qA0.mk (hbox); have GW145 := zg w gb145; have GE145 := zg w gb145; replace HB := zB hb; clear hb hbox hg))
 go_loopg [12] k (fun kq v12 w' => ∃ (x12_1 : Int) (x146000_1 : ByteArray) (x146001_1 : Int) (x146002_1 : Bool) (x146003_1 : Int) (x146004_1 : Int) (x146005_1 : Int) (x146006_1 : Int), v12 = .int .i64 x12_1 ∧ qA0 (qAR.l0 kq a1 l0 (l0.length : Int) x12_1 = some (r1, r2, r3, r4, r5, r6, r7, r8)) ∧ qA0 (kq ≤ k) ∧ qA0 (w'.heap[gb145]? = some (.cells #[.string x146000_1, .int .i64 x146001_1, .bool x146002_1, .int .i64 x146003_1, .int .i64 x146004_1, .int .i64 x146005_1, .int .i64 x146006_1] 60 (0, 0))) ∧ qA0 (Below w.heap.size w w'))
 case atStart => exact ⟨(0), ((⟨#[]⟩ : ByteArray)), (0), (false), (0), (0), (0), (0), zs, H', ⟨Nat.le_refl _⟩, ⟨zk BK145⟩, ⟨zb⟩⟩
 clear H'
 obtain ⟨x12_1, x146000_1, x146001_1, x146002_1, x146003_1, x146004_1, x146005_1, x146006_1, rfl, HA, HK1, BK145, HB⟩ := hrel
 obtain _ | k1 := gk
 ·exact absurd HA.out (by simp [qAR.l0])
 have H := HA.out
 clear HA
 simp only [qAR.l0] at H
 by_cases c4 : x12_1 < (l0.length : Int)
 rotate_left
 ·rw [if_neg c4] at H
  have c4b0 := decide_eq_false c4
  clear c4
  simp only [Option.some.injEq, Prod.mk.injEq] at H
  obtain ⟨rfl, rfl, rfl, rfl, rfl, rfl, rfl, rfl⟩ := H
  obtain ⟨hcz24_0, hcz24_1, hcz24_2, hcz24_3, hcz24_4, hcz24_5, hcz24_6, hfz24_0, hfz24_1, hfz24_2, hfz24_3, hfz24_4, hfz24_5, hfz24_6⟩ := bc7 BK145.out
  go_wp2
  refine bodyPost_ret (qDN rfl _ _ gb145 60 #[.string (⟨#[]⟩ : ByteArray), .int .i64 0, .bool false, .int .i64 0, .int .i64 0, .int .i64 0, .int .i64 0] (0, 0) _ rfl (zp7 BK145) Tryz.underlying60 rfl (by kernel_rfl)) rfl ?_
  exact ⟨zf, zb⟩
 rw [if_pos c4] at H
 have c4b0 := decide_eq_true c4
 clear c4
 by_cases c5 : 0 ≤ x12_1
 rotate_left
 ·rw [if_neg c5] at H
  cases H
 rw [if_pos c5] at H
 have c5b0 := decide_eq_true c5
 clear c5
 by_cases c6 : x12_1 < (l0.length : Int)
 rotate_left
 ·rw [if_neg c6] at H
  cases H
 rw [if_pos c6] at H
 have c6b0 := decide_eq_true c6
 clear c6
 have H' := qA0.mk H
 clear H
 have p146 : 0 ≤ (x12_1 : Int) := zd
 have q146 : x12_1 < (l0.length : Int) := zd
 obtain ⟨ad146, A146_3, c146_3, A146_4, c146_4, A146_5, c146_5, e146, hx146_0, hx146_1, hx146_2, hx146_3, hx146_4, hx146_5, hl146_3, hi146_3, hl146_4, hi146_4, hl146_5, hi146_5⟩ := at_T76 HR0.out x12_1 p146 q146
 cases e146
 (try replace hx146_0 := zh hx146_0)
 replace hx146_1 := zh hx146_1
 replace hx146_2 := zh hx146_2
 replace hx146_3 := zh hx146_3
 replace hx146_4 := zh hx146_4
 replace hx146_5 := zh hx146_5
 have HR146_3 := qA0.mk hi146_3
 have HC146_3 := qA0.mk hl146_3
 clear hi146_3 hl146_3
 have HR146_4 := qA0.mk hi146_4
 have HC146_4 := qA0.mk hl146_4
 clear hi146_4 hl146_4
 have HR146_5 := qA0.mk hi146_5
 have HC146_5 := qA0.mk hl146_5
 clear hi146_5 hl146_5
 replace p146 := eq_true p146
 replace q146 := eq_true q146
 go_wp2_with (((with_reducible refine qA9 (N := 7) rfl ?_); refine boxZ 7 #[.string (⟨#[]⟩ : ByteArray), .int .i64 0, .int .i64 0, .slice none 0 0, .slice none 0 0, .slice none 0 0] 76 ?_; intro gb147 hg w7 hbox hb; have BK147 := qA0.mk (hbox); have GW147 := zg w gb147; have GE147 := zg w gb147; have NB145_147 := zl BK145 gb147; have NB147_145 := zu BK145 gb147; replace BK145 := zK BK145 hb; replace HB := zB hb; clear hb hbox hg; have hnb8 := NB147_145.out; have hnc8 := NB145_147.out; obtain ⟨hcz9_0, hcz9_1, hcz9_2, hcz9_3, hcz9_4, hcz9_5, hfz9_0, hfz9_1, hfz9_2, hfz9_3, hfz9_4, hfz9_5⟩ := bc6 BK147.out))
 go_loopg [19] k1 (fun kq v19 w' => ∃ (x19_2 : Int) (x146000_2 : ByteArray) (x146001_2 : Int) (x146002_2 : Bool) (x146003_2 : Int) (x146004_2 : Int) (x146005_2 : Int) (x146006_2 : Int), v19 = .int .i64 x19_2 ∧ qA0 (qAR.l1 kq a1 l0 (l0.length : Int) x12_1 ((qAB l0 x12_1).f3) (((qAB l0 x12_1).f3).length : Int) x19_2 = some (r1, r2, r3, r4, r5, r6, r7, r8)) ∧ qA0 (kq ≤ k1) ∧ qA0 (w'.heap[gb145]? = some (.cells #[.string x146000_2, .int .i64 x146001_2, .bool x146002_2, .int .i64 x146003_2, .int .i64 x146004_2, .int .i64 x146005_2, .int .i64 x146006_2] 60 (0, 0))) ∧ qA0 (w'.heap[gb147]? = some (.cells #[.string ((qAB l0 x12_1).f0), .int .i64 ((qAB l0 x12_1).f1), .int .i64 ((qAB l0 x12_1).f2), (.slice A146_3 ((qAB l0 x12_1).f3).length c146_3), (.slice A146_4 ((qAB l0 x12_1).f4).length c146_4), (.slice A146_5 ((qAB l0 x12_1).f5).length c146_5)] 76 (0, 0))) ∧ qA0 (Below w.heap.size w w'))
 case atStart => exact ⟨(0), (x146000_1), (x146001_1), (x146002_1), (x146003_1), (x146004_1), (x146005_1), (x146006_1), zs, H', ⟨Nat.le_refl _⟩, ⟨by refine zf6 ?_ NB145_147; (with_reducible repeat refine st ?_); exact BK145.out⟩, ⟨zp6 BK147⟩, ⟨zb⟩⟩
 clear H' c4b0 c5b0 c6b0 hcz9_0 hcz9_1 hcz9_2 hcz9_3 hcz9_4 hcz9_5 hfz9_0 hfz9_1 hfz9_2 hfz9_3 hfz9_4 hfz9_5 hx146_0 hx146_1 hx146_2 hx146_3 hx146_4 hx146_5 p146 q146
 obtain ⟨x19_2, x146000_2, x146001_2, x146002_2, x146003_2, x146004_2, x146005_2, x146006_2, rfl, HA, HK2, BK145, BK147, HB⟩ := hrel
 obtain _ | k2 := gk
 ·exact absurd HA.out (by simp [qAR.l1])
 have H := HA.out
 clear HA
 simp only [qAR.l1] at H
 by_cases c10 : x19_2 < (((qAB l0 x12_1).f3).length : Int)
 rotate_left
 ·rw [if_neg c10] at H
  have c10b0 := decide_eq_false c10
  clear c10
  have H' := qA0.mk H
  clear H
  go_wp2
  go_roundg k2
  case measure => have := HK1.out; have := HK2.out; omega
  case rel => exact ⟨(wrap64 (x12_1 + 1)), (x146000_2), (x146001_2), (x146002_2), (x146003_2), (x146004_2), (x146005_2), (x146006_2), zs, H', ⟨by have := HK1.out; have := HK2.out; omega⟩, ⟨zk BK145⟩, ⟨zb⟩⟩
 rw [if_pos c10] at H
 have c10b0 := decide_eq_true c10
 clear c10
 by_cases c11 : 0 ≤ x19_2
 rotate_left
 ·rw [if_neg c11] at H
  cases H
 rw [if_pos c11] at H
 have c11b0 := decide_eq_true c11
 clear c11
 by_cases c12 : x19_2 < (((qAB l0 x12_1).f3).length : Int)
 rotate_left
 ·rw [if_neg c12] at H
  cases H
 rw [if_pos c12] at H
 have c12b0 := decide_eq_true c12
 clear c12
 by_cases c13 : ((qBH ((qAB l0 x12_1).f3) x19_2).f0).toList = a1.toList
 rotate_left
 ·rw [if_neg c13] at H
  have ⟨c13b0, c13b1⟩ := zn c13
  have H' := qA0.mk H
  clear H
  have p148 : 0 ≤ (x19_2 : Int) := zd
  have q148 : x19_2 < (((qAB l0 x12_1).f3).length : Int) := zd
  obtain ⟨ad148, e148, hx148_0, hx148_1, hx148_2, hx148_3, hx148_4, hx148_5, hx148_6⟩ := at_T60 HR146_3.out x19_2 p148 q148
  cases e148
  (try replace hx148_0 := zh hx148_0)
  replace hx148_1 := zh hx148_1
  replace hx148_2 := zh hx148_2
  replace hx148_3 := zh hx148_3
  replace hx148_4 := zh hx148_4
  replace hx148_5 := zh hx148_5
  replace hx148_6 := zh hx148_6
  replace p148 := eq_true p148
  replace q148 := eq_true q148
  go_wp2_with (((with_reducible refine qA9 (N := 9) rfl ?_); refine boxZ 9 #[.string (⟨#[]⟩ : ByteArray), .int .i64 0, .bool false, .int .i64 0, .int .i64 0, .int .i64 0, .int .i64 0] 60 ?_; intro gb149 hg w20 hbox hb; have BK149 := qA0.mk (hbox); have GW149 := zg w gb149; have GE149 := zg w gb149; have NB145_149 := zl BK145 gb149; have NB149_145 := zu BK145 gb149; have NB147_149 := zl BK147 gb149; have NB149_147 := zu BK147 gb149; replace BK145 := zK BK145 hb; replace BK147 := zK BK147 hb; replace HB := zB hb; clear hb hbox hg; have hnb21 := NB149_145.out; have hnc21 := NB145_149.out; have hnb22 := NB149_147.out; have hnc22 := NB147_149.out; obtain ⟨hcz23_0, hcz23_1, hcz23_2, hcz23_3, hcz23_4, hcz23_5, hcz23_6, hfz23_0, hfz23_1, hfz23_2, hfz23_3, hfz23_4, hfz23_5, hfz23_6⟩ := bc7 BK149.out))
  go_roundg k2
  case measure => have := HK1.out; have := HK2.out; omega
  case rel => exact ⟨(wrap64 (x19_2 + 1)), (x146000_2), (x146001_2), (x146002_2), (x146003_2), (x146004_2), (x146005_2), (x146006_2), zs, H', ⟨by have := HK1.out; have := HK2.out; omega⟩, ⟨by refine zf7 ?_ NB145_149; (with_reducible repeat refine st ?_); exact BK145.out⟩, ⟨by refine zf7 ?_ NB147_149; (with_reducible repeat refine st ?_); exact BK147.out⟩, ⟨zb⟩⟩
 rw [if_pos c13] at H
 have ⟨c13b0, c13b1⟩ := ze c13
 clear c13
 simp only [Option.some.injEq, Prod.mk.injEq] at H
 obtain ⟨rfl, rfl, rfl, rfl, rfl, rfl, rfl, rfl⟩ := H
 have p148 : 0 ≤ (x19_2 : Int) := zd
 have q148 : x19_2 < (((qAB l0 x12_1).f3).length : Int) := zd
 obtain ⟨ad148, e148, hx148_0, hx148_1, hx148_2, hx148_3, hx148_4, hx148_5, hx148_6⟩ := at_T60 HR146_3.out x19_2 p148 q148
 cases e148
 (try replace hx148_0 := zh hx148_0)
 replace hx148_1 := zh hx148_1
 replace hx148_2 := zh hx148_2
 replace hx148_3 := zh hx148_3
 replace hx148_4 := zh hx148_4
 replace hx148_5 := zh hx148_5
 replace hx148_6 := zh hx148_6
 replace p148 := eq_true p148
 replace q148 := eq_true q148
 go_wp2_with (((with_reducible refine qA9 (N := 9) rfl ?_); refine boxZ 9 #[.string (⟨#[]⟩ : ByteArray), .int .i64 0, .bool false, .int .i64 0, .int .i64 0, .int .i64 0, .int .i64 0] 60 ?_; intro gb149 hg w14 hbox hb; have BK149 := qA0.mk (hbox); have GW149 := zg w gb149; have GE149 := zg w gb149; have NB145_149 := zl BK145 gb149; have NB149_145 := zu BK145 gb149; have NB147_149 := zl BK147 gb149; have NB149_147 := zu BK147 gb149; replace BK145 := zK BK145 hb; replace BK147 := zK BK147 hb; replace HB := zB hb; clear hb hbox hg; have hnb15 := NB149_145.out; have hnc15 := NB145_149.out; have hnb16 := NB149_147.out; have hnc16 := NB147_149.out; obtain ⟨hcz17_0, hcz17_1, hcz17_2, hcz17_3, hcz17_4, hcz17_5, hcz17_6, hfz17_0, hfz17_1, hfz17_2, hfz17_3, hfz17_4, hfz17_5, hfz17_6⟩ := bc7 BK149.out; have hnb18 := NB145_147.out; have hnc18 := NB147_145.out; obtain ⟨hcz19_0, hcz19_1, hcz19_2, hcz19_3, hcz19_4, hcz19_5, hcz19_6, hfz19_0, hfz19_1, hfz19_2, hfz19_3, hfz19_4, hfz19_5, hfz19_6⟩ := bc7 BK145.out))
 refine bodyPost_ret (qDN rfl _ _ gb145 60 #[.string ((qBH ((qAB l0 x12_1).f3) x19_2).f0), .int .i64 ((qBH ((qAB l0 x12_1).f3) x19_2).f1), .bool ((qBH ((qAB l0 x12_1).f3) x19_2).f2), .int .i64 ((qBH ((qAB l0 x12_1).f3) x19_2).f3), .int .i64 ((qBH ((qAB l0 x12_1).f3) x19_2).f4), .int .i64 ((qBH ((qAB l0 x12_1).f3) x19_2).f5.f0), .int .i64 ((qBH ((qAB l0 x12_1).f3) x19_2).f5.f1)] (0, 0) _ rfl (by refine zp_ (cs := #[.string ((qBH ((qAB l0 x12_1).f3) x19_2).f0), .int .i64 ((qBH ((qAB l0 x12_1).f3) x19_2).f1), .bool ((qBH ((qAB l0 x12_1).f3) x19_2).f2), .int .i64 ((qBH ((qAB l0 x12_1).f3) x19_2).f3), .int .i64 ((qBH ((qAB l0 x12_1).f3) x19_2).f4), .int .i64 ((qBH ((qAB l0 x12_1).f3) x19_2).f5.f0), .int .i64 x146006_2]) ?_ 6; refine zp_ (cs := #[.string ((qBH ((qAB l0 x12_1).f3) x19_2).f0), .int .i64 ((qBH ((qAB l0 x12_1).f3) x19_2).f1), .bool ((qBH ((qAB l0 x12_1).f3) x19_2).f2), .int .i64 ((qBH ((qAB l0 x12_1).f3) x19_2).f3), .int .i64 ((qBH ((qAB l0 x12_1).f3) x19_2).f4), .int .i64 x146005_2, .int .i64 x146006_2]) ?_ 5; refine zp_ (cs := #[.string ((qBH ((qAB l0 x12_1).f3) x19_2).f0), .int .i64 ((qBH ((qAB l0 x12_1).f3) x19_2).f1), .bool ((qBH ((qAB l0 x12_1).f3) x19_2).f2), .int .i64 ((qBH ((qAB l0 x12_1).f3) x19_2).f3), .int .i64 x146004_2, .int .i64 x146005_2, .int .i64 x146006_2]) ?_ 4; refine zp_ (cs := #[.string ((qBH ((qAB l0 x12_1).f3) x19_2).f0), .int .i64 ((qBH ((qAB l0 x12_1).f3) x19_2).f1), .bool ((qBH ((qAB l0 x12_1).f3) x19_2).f2), .int .i64 x146003_2, .int .i64 x146004_2, .int .i64 x146005_2, .int .i64 x146006_2]) ?_ 3; refine zp_ (cs := #[.string ((qBH ((qAB l0 x12_1).f3) x19_2).f0), .int .i64 ((qBH ((qAB l0 x12_1).f3) x19_2).f1), .bool x146002_2, .int .i64 x146003_2, .int .i64 x146004_2, .int .i64 x146005_2, .int .i64 x146006_2]) ?_ 2; refine zp_ (cs := #[.string ((qBH ((qAB l0 x12_1).f3) x19_2).f0), .int .i64 x146001_2, .bool x146002_2, .int .i64 x146003_2, .int .i64 x146004_2, .int .i64 x146005_2, .int .i64 x146006_2]) ?_ 1; refine zp_ (cs := #[.string x146000_2, .int .i64 x146001_2, .bool x146002_2, .int .i64 x146003_2, .int .i64 x146004_2, .int .i64 x146005_2, .int .i64 x146006_2]) ?_ 0; refine zf7 ?_ NB145_149; (with_reducible repeat refine st ?_); exact BK145.out) Tryz.underlying60 rfl (by kernel_rfl)) rfl ?_
 exact ⟨zf, zb⟩
theorem qDD.idx (A : Option Addr) (c : Nat) (l : List Int) (gi : Addr) (J T : Nat → World → Prop) (hJ : ∀ k W, J k W → Kd.C (Kd.int .i64) W A l.length l) (hl : l.length ≤ c)
  (hcall : ∀ k W, k < l.length → J k W → Calls Tryz.prog 157 #[.int .i64 (l.getD k (0 : Int)), .pointer (some gi)] W fun e W' => (e = .returned (.bool true) ∧ T k W') ∨ (e = .returned (.bool false) ∧ J (k + 1) W')) (w : World) (h0 : J 0 w) :
  Calls Tryz.prog 57 #[.slice A l.length c, .func (.func 157) #[] #[.pointer (some gi)]] w fun e W' => (∃ k : Nat, k < l.length ∧ e = .returned (.int .i64 (k : Int)) ∧ T k W') ∨ (e = .returned (.int .i64 (-1)) ∧ J l.length W') := by
 have hm := Kd.C_max (hJ 0 w h0)
 have H0 := qA0.mk h0
 clear h0
 go_enter Tryz.func57, Tryz.ntmps57
 go_wp2
 go_loopw [5, 8] (fun _ i wr => ∃ k : Nat, k ≤ l.length ∧ i = .int .i64 k ∧ qA0 (J k wr)) (fun _ i _ => l.length - (intOf i).toNat)
 case atStart => exact ⟨0, Nat.zero_le _, rfl, H0⟩
 obtain ⟨k, hk, rfl, HJ⟩ := hrel
 by_cases hlt : k < l.length
 rotate_left
 ·obtain rfl : k = l.length := by omega
  go_wp2_with fail
  go_ret
  exact .inr ⟨rfl, HJ.out⟩
 have hC := hJ k wr HJ.out
 have HC := qA0.mk (hcall k wr hlt HJ.out)
 obtain ⟨ad, cs_, rfl, hcl_, hk_, hcell_⟩ := Kd.C_get hC (0 : Int) (k : Int) (by omega) (by omega)
 have h1_ : cs_ = [.int .i64 (l.getD k (0 : Int))] := hk_
 have hx0 := hcell_ 0 (.int .i64 (l.getD k (0 : Int))) (by rw [h1_]; rfl)
 rw [show (k : Int).toNat * ((Kd.int .i64)).sz + 0 = k from by simp [show ((Kd.int .i64)).sz = 1 from rfl]] at hx0
 clear hcell_ hk_ h1_ hcl_ hC hcall
 generalize l.getD k (0 : Int) = y at *
 go_wp2_with fail
 refine HC.out.mono ?_
 rintro e w' (⟨rfl, ht⟩ | ⟨rfl, hj⟩)
 ·have HT := qA0.mk ht
  clear ht
  go_wp2_with fail
  go_ret
  exact .inl ⟨k, hlt, rfl, HT.out⟩
 ·have HJ2 := qA0.mk hj
  clear hj
  go_wp2_with fail
  go_roundw
  case rel => exact ⟨k + 1, by omega, by go_num, HJ2⟩
  case measure => simp [intOf]; omega
theorem qDD.contains (A : Option Addr) (c : Nat) (l : List Int) (gi : Addr) (J T : Nat → World → Prop) (hJ : ∀ k W, J k W → Kd.C (Kd.int .i64) W A l.length l) (hl : l.length ≤ c)
  (hcall : ∀ k W, k < l.length → J k W → Calls Tryz.prog 157 #[.int .i64 (l.getD k (0 : Int)), .pointer (some gi)] W fun e W' => (e = .returned (.bool true) ∧ T k W') ∨ (e = .returned (.bool false) ∧ J (k + 1) W')) (w : World) (h0 : J 0 w) :
  Calls Tryz.prog 24 #[.slice A l.length c, .func (.func 157) #[] #[.pointer (some gi)]] w fun e W' => (e = .returned (.bool true) ∧ ∃ k : Nat, k < l.length ∧ T k W') ∨ (e = .returned (.bool false) ∧ J l.length W') := by
 have HI := qA0.mk (qDD.idx A c l gi J T hJ hl hcall w h0)
 clear hcall hJ h0
 go_enter Tryz.func24, Tryz.ntmps24
 go_wp2_with fail
 refine HI.out.mono ?_
 rintro e w' (⟨k, hk, rfl, ht⟩ | ⟨rfl, hj⟩)
 ·have HT := qA0.mk ht
  clear ht
  go_wp2_with fail
  go_ret
  exact .inl ⟨by simp, k, hk, HT.out⟩
 ·have HJ := qA0.mk hj
  clear hj
  go_wp2_with fail
  go_ret
  exact .inr ⟨by simp, HJ.out⟩
theorem containsFar.idx (A : Option Addr) (c : Nat) (l : List Int) (gi : Addr) (J T : Nat → World → Prop) (hJ : ∀ k W, J k W → Kd.C (Kd.int .i64) W A l.length l) (hl : l.length ≤ c)
  (hcall : ∀ k W , k < l.length → J k W → Calls Tryz.prog 25 #[.int .i64 (l.getD k (0 : Int)), .pointer (some gi)] W fun e W' => (e = .returned (.bool true) ∧ T k W') ∨ (e = .returned (.bool false) ∧ J (k + 1) W')) (w : World) (h0 : J 0 w) :
  Calls Tryz.prog 57 #[.slice A l.length c, .func (.func 25) #[] #[.pointer (some gi)]] w fun e W' => (∃ k : Nat, k < l.length ∧ e = .returned (.int .i64 (k : Int)) ∧ T k W') ∨ (e = .returned (.int .i64 (-1)) ∧ J l.length W') := by
 have hm := Kd.C_max (hJ 0 w h0)
 have H0 := qA0.mk h0
 clear h0
 go_enter Tryz.func57, Tryz.ntmps57
 go_wp2
 go_loopw [5, 8] (fun _ i wr => ∃ k : Nat, k ≤ l.length ∧ i = .int .i64 k ∧ qA0 (J k wr)) (fun _ i _ => l.length - (intOf i).toNat)
 case atStart => exact ⟨0, Nat.zero_le _, rfl, H0⟩
 obtain ⟨k, hk, rfl, HJ⟩ := hrel
 by_cases hlt : k < l.length
 rotate_left
 ·obtain rfl : k = l.length := by omega
  go_wp2_with fail
  go_ret
  exact .inr ⟨rfl, HJ.out⟩
 have hC := hJ k wr HJ.out
 obtain ⟨ad, cs_, rfl, hcl_, hk_, hcell_⟩ := Kd.C_get hC (0 : Int) (k : Int) (by omega) (by omega)
 have h1_ : cs_ = [.int .i64 (l.getD k (0 : Int))] := hk_
 have hx0 := hcell_ 0 (.int .i64 (l.getD k (0 : Int))) (by rw [h1_]; rfl)
 rw [show (k : Int).toNat * ((Kd.int .i64)).sz + 0 = k from by simp [show ((Kd.int .i64)).sz = 1 from rfl]] at hx0
 clear hcell_ hk_ h1_ hcl_ hC
 have HC := qA0.mk (hcall k wr  hlt HJ.out)
 clear hcall
 generalize l.getD k (0 : Int) = y at *
 go_wp2_with fail
 refine HC.out.mono ?_
 rintro e w' (⟨rfl, ht⟩ | ⟨rfl, hj⟩)
 ·have HT := qA0.mk ht
  clear ht
  go_wp2_with fail
  go_ret
  exact .inl ⟨k, hlt, rfl, HT.out⟩
 ·have HJ2 := qA0.mk hj
  clear hj
  go_wp2_with fail
  go_roundw
  case rel => exact ⟨k + 1, by omega, by go_num, HJ2⟩
  case measure => simp [intOf]; omega
theorem containsFar.contains (A : Option Addr) (c : Nat) (l : List Int) (gi : Addr) (J T : Nat → World → Prop) (hJ : ∀ k W, J k W → Kd.C (Kd.int .i64) W A l.length l) (hl : l.length ≤ c)
  (hcall : ∀ k W, k < l.length → J k W → Calls Tryz.prog 25 #[.int .i64 (l.getD k (0 : Int)), .pointer (some gi)] W fun e W' => (e = .returned (.bool true) ∧ T k W') ∨ (e = .returned (.bool false) ∧ J (k + 1) W')) (w : World) (h0 : J 0 w) :
  Calls Tryz.prog 24 #[.slice A l.length c, .func (.func 25) #[] #[.pointer (some gi)]] w fun e W' => (e = .returned (.bool true) ∧ ∃ k : Nat, k < l.length ∧ T k W') ∨ (e = .returned (.bool false) ∧ J l.length W') := by
 have HI := qA0.mk (containsFar.idx A c l gi J T hJ hl hcall w h0)
 clear hcall hJ h0
 go_enter Tryz.func24, Tryz.ntmps24
 go_wp2_with fail
 refine HI.out.mono ?_
 rintro e w' (⟨k, hk, rfl, ht⟩ | ⟨rfl, hj⟩)
 ·have HT := qA0.mk ht
  clear ht
  go_wp2_with fail
  go_ret
  exact .inl ⟨by simp, k, hk, HT.out⟩
 ·have HJ := qA0.mk hj
  clear hj
  go_wp2_with fail
  go_ret
  exact .inr ⟨by simp, HJ.out⟩
theorem far_calls (x lo hi : Int) (g : Nat) (w : World) (h3 : w.cell? ⟨g, 3, none⟩ = some (.int .i64 lo)) (h4 : w.cell? ⟨g, 4, none⟩ = some (.int .i64 hi)) : Calls Tryz.prog 25 #[.int .i64 x, .pointer (some ⟨g, 0, none⟩)] w fun e w' => e = .returned (.bool (decide (x < lo) || decide (hi < x))) ∧ w' = w := by
 by_cases c1 : x < lo
 rotate_left
 ·have c1b : decide (x < lo) = false := decide_eq_false c1
  clear c1
  go_enter Tryz.func25, Tryz.ntmps25
  go_wp2
  go_ret
  exact ⟨by simp [c1b], rfl⟩
 have c1b : decide (x < lo) = true := decide_eq_true c1
 clear c1
 go_enter Tryz.func25, Tryz.ntmps25
 go_wp2
 go_ret
 exact ⟨by simp [c1b], rfl⟩
def farB (l : List Int) (lo hi : Int) : Bool := l.any fun x => decide (x < lo) || decide (hi < x)
theorem far_all (A : Option Addr) (c : Nat) (l : List Int) (lo hi : Int) (g : Nat) (w : World) (hC : Kd.C (Kd.int .i64) w A l.length l) (hl : l.length ≤ c) (h3 : w.cell? ⟨g, 3, none⟩ = some (.int .i64 lo)) (h4 : w.cell? ⟨g, 4, none⟩ = some (.int .i64 hi)) :
  Calls Tryz.prog 24 #[.slice A l.length c, .func (.func 25) #[] #[.pointer (some ⟨g, 0, none⟩)]] w fun e w' => e = .returned (.bool (farB l lo hi)) ∧ w' = w := by
 refine (containsFar.contains A c l ⟨g, 0, none⟩ (fun k W => W = w ∧ ∀ j, j < k → (decide (l.getD j 0 < lo) || decide (hi < l.getD j 0)) = false) (fun k W => W = w ∧ (decide (l.getD k 0 < lo) || decide (hi < l.getD k 0)) = true) (fun k W hW => by rw [hW.1]; exact hC) hl ?_ w ⟨rfl, fun j hj => absurd hj (by omega)⟩).mono ?_
 ·rintro k W hk ⟨rfl, hJ⟩
  refine (far_calls _ lo hi g W h3 h4).mono ?_
  rintro e w' ⟨rfl, rfl⟩
  cases hb : (decide (l.getD k 0 < lo) || decide (hi < l.getD k 0))
  ·refine .inr ⟨rfl, rfl, fun j hj => ?_⟩
   rcases Nat.lt_or_ge j k with h | h
   ·exact hJ j h
   ·obtain rfl : j = k := by omega
    exact hb
  ·exact .inl ⟨rfl, rfl, rfl⟩
 ·rintro e w' (⟨rfl, k, hk, rfl, hb⟩ | ⟨rfl, rfl, hJ⟩)
  ·refine ⟨?_, rfl⟩
   have : farB l lo hi = true := List.any_eq_true.2 ⟨l.getD k 0, by rw [List.getD_eq_getElem?_getD, List.getElem?_eq_getElem hk]; exact List.getElem_mem _, hb⟩
   rw [this]
  ·refine ⟨?_, rfl⟩
   have : farB l lo hi = false := by
    apply Bool.eq_false_iff.2
    intro h
    obtain ⟨x, hx, hb⟩ := List.any_eq_true.1 h
    obtain ⟨j, hj, rfl⟩ := List.getElem_of_mem hx
    have := hJ j hj
    rw [List.getD_eq_getElem?_getD, List.getElem?_eq_getElem hj] at this
    simp only [Option.getD_some] at this
    rw [this] at hb
    cases hb
   rw [this]
def qDD.f (l : List Int) (lo hi : Int) : Option Bool := some (farB l lo hi)
theorem qDD.calls (A : Option Addr) (c : Nat) (l : List Int) (lo hi : Int) (r : Bool) (w : World) {g : Nat} (hC : Kd.C (Kd.int .i64) w A l.length l) (hl : l.length ≤ c) (h : qDD.f l lo hi = some r) (h3 : w.cell? ⟨g, 3, none⟩ = some (.int .i64 lo)) (h4 : w.cell? ⟨g, 4, none⟩ = some (.int .i64 hi)) :
  Calls Tryz.prog 24 #[.slice A l.length c, .func (.func 25) #[] #[.pointer (some ⟨g, 0, none⟩)]] w fun e w' => e = .returned (.bool r) ∧ qAX w w' := by
 refine (far_all A c l lo hi g w hC hl h3 h4).mono ?_
 rintro e w' ⟨rfl, rfl⟩
 exact ⟨by rw [Option.some.inj h], qAX.refl _⟩
end
end Go.Proofs.YtpafpefealopoaaGreat.PPopMakes
end
