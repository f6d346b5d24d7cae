/- A part of the proof of RatePuts: texts that were printed, words, walks. No condition. -/
import Derived.Test.YtfnejdbjekkadaaGreatC1
set_option linter.unusedVariables false
set_option linter.unusedSimpArgs false
section
namespace Go.Proofs.YtfnejdbjekkadaaGreat.PRatePuts
noncomputable section
open Go.RowKit Go.Proofs.YtfnejdbjekkadaaGreatW.PrintWords Go.Proofs.YtfnejdbjekkadaaGreatW.PrintLast Go.Proofs.YtfnejdbjekkadaaGreatW.PrintMore
set_option maxHeartbeats 8000000
set_option maxRecDepth 100000
attribute [local go_sem high] eqA69
mutual
def qBO.j0 : Nat → Bool → ByteArray → Int → Bool → Int → Int → Int → Int → Option (Int)
 | 0, _, _, _, _, _, _, _, _ => none
 | k + 1, x14, x128000, x128001, x128002, x128003, x128004, x128005, x128006 => if x14 = true then (some 8) else (if x128002 = true then (if (!(x128005 == 0) || (!(x128006 == 0))) = true then (some 3) else ((some (([x128003, x128004] : List Int) : List Int)).bind fun y128 => (qBO.l0 k y128 (y128.length : Int) 0 x128000 x128001 x128002 x128003 x128004 x128005 x128006))) else (if x128003 = 0 then (qBO.j2 k (x128004 != 0) x128000 x128001 x128002 x128003 x128004 x128005 x128006) else (qBO.j2 k true x128000 x128001 x128002 x128003 x128004 x128005 x128006)))
def qBO.l0 : Nat → List Int → Int → Int → ByteArray → Int → Bool → Int → Int → Int → Int → Option (Int)
 | 0, _, _, _, _, _, _, _, _, _, _ => none
 | k + 1, x25, x26, x27, x128000, x128001, x128002, x128003, x128004, x128005, x128006 => if x27 < x26 then (if 0 ≤ x27 then (if x27 < (x25.length : Int) then ((qCM.f x128001 (rd x25 x27)).bind fun t132 => (if t132 = 0 then (qBO.l0 k x25 x26 (wrap64 (x27 + 1)) x128000 x128001 x128002 x128003 x128004 x128005 x128006) else (some t132))) else (none)) else (none)) else (if x128003 > x128004 then (some 9) else (some 0))
def qBO.j2 : Nat → Bool → ByteArray → Int → Bool → Int → Int → Int → Int → Option (Int)
 | 0, _, _, _, _, _, _, _, _ => none
 | k + 1, x52, x128000, x128001, x128002, x128003, x128004, x128005, x128006 => if x52 = true then (some 3) else ((qCM.f x128005 x128006).bind fun t133 => (if t133 = 0 then (if x128005 = 0 then (some 0) else (if x128005 = x128001 then (some 0) else (some 8))) else (some t133)))
end
def qBO.f (k : Nat) (a0_0 : ByteArray) (a0_1 : Int) (a0_2 : Bool) (a0_3 : Int) (a0_4 : Int) (a0_5 : Int) (a0_6 : Int) : Option (Int) := if a0_1 ≤ 0 then (qBO.j0 k true a0_0 a0_1 a0_2 a0_3 a0_4 a0_5 a0_6) else (qBO.j0 k (decide (a0_1 > 6)) a0_0 a0_1 a0_2 a0_3 a0_4 a0_5 a0_6)
theorem qBO.calls (k : Nat) (a0_0 : ByteArray) (a0_1 : Int) (a0_2 : Bool) (a0_3 : Int) (a0_4 : Int) (a0_5 : Int) (a0_6 : Int) (r : Int) (w : World) (h : qBO.f k a0_0 a0_1 a0_2 a0_3 a0_4 a0_5 a0_6 = some r) :
  Calls Tryz.prog 43 #[.agg #[.string a0_0, .int .i64 a0_1, .bool a0_2, .int .i64 a0_3, .int .i64 a0_4, .int .i64 a0_5, .int .i64 a0_6]] w fun e w' => e = .returned (.int .i64 r) ∧ Below w.heap.size w w' := by
 have hu98 := Tryz.underlying98
 have hu69 := Tryz.underlying69
 have HB := zq (Below.refl w.heap.size w)
 have H := h
 unfold qBO.f at H
 clear h
 have HC2 := zq H
 clear H
 go_enter Tryz.func43, Tryz.ntmps43
 go_upto_region 1 with (((with_reducible refine qAS (N := 1) rfl ?_); refine boxZ 1 #[.string a0_0, .int .i64 a0_1, .bool a0_2, .int .i64 a0_3, .int .i64 a0_4, .int .i64 a0_5, .int .i64 a0_6] 98 ?_; intro gb127 hg w3 hbox hb; have BK127 := zq (hbox); have GW127 := zg w gb127; have GE127 := zg w gb127; replace HB := zB hb; clear hb hbox hg))
 go_cut [14] (fun v14 wc => ∃ (kq : Nat) (x14_1 : Bool), v14 = .bool x14_1 ∧ qA0 (qBO.j0 kq x14_1 a0_0 a0_1 a0_2 a0_3 a0_4 a0_5 a0_6 = some r) ∧ qA0 (kq ≤ k) ∧ qA0 (wc.heap[gb127]? = some (.cells #[.string a0_0, .int .i64 a0_1, .bool a0_2, .int .i64 a0_3, .int .i64 a0_4, .int .i64 a0_5, .int .i64 a0_6] 98 (0, 0))) ∧ qA0 (Below w.heap.size w wc))
 case first =>
  have H := HC2.out
  clear HC2
  obtain ⟨-, c4b0, H⟩ | ⟨-, c4b0, H⟩ := y3 H
  rotate_left
  ·(first | rw [c4b0] | (simp only [qCI, qCO]; rw [c4b0]) | skip)
   have H' := zq H
   clear H
   have hcz6 := bc7 BK127.out
   go_wp2
   go_meet
   case rel => exact ⟨_, (decide (a0_1 > 6)), zs, H', ⟨by first | omega | exact Nat.le_refl _⟩, ⟨zk BK127⟩, ⟨zb⟩⟩
  (first | rw [c4b0] | (simp only [qCI, qCO]; rw [c4b0]) | skip)
  have H' := zq H
  clear H
  have hcz5 := bc7 BK127.out
  go_wp2
  go_meet
  case rel => exact ⟨_, (true), zs, H', ⟨by first | omega | exact Nat.le_refl _⟩, ⟨zk BK127⟩, ⟨zb⟩⟩
 clear HC2
 obtain ⟨kq, x14_1, rfl, HA, HJ1, BK127, HB⟩ := hcut
 obtain _ | kj1 := kq
 ·exact absurd HA.out (by simp [qBO.j0])
 have H := HA.out
 clear HA
 simp only [qBO.j0] at H
 by_cases c7 : x14_1 = true
 ·subst c7
  rw [if_pos rfl] at H
  obtain rfl := zy H
  go_wp2
  go_ret
  exact ⟨zf, zb⟩
 replace c7 := Bool.eq_false_iff.mpr c7
 subst c7
 rw [zj] at H
 by_cases c8 : a0_2 = true
 rotate_left
 ·replace c8 := Bool.eq_false_iff.mpr c8
  subst c8
  rw [zj] at H
  have HC27 := zq H
  clear H
  have hcz28 := bc7 BK127.out
  go_upto_region 16 with (fail)
  go_cut [52] (fun v52 wc => ∃ (kq : Nat) (x52_26 : Bool), v52 = .bool x52_26 ∧ qA0 (qBO.j2 kq x52_26 a0_0 a0_1 false a0_3 a0_4 a0_5 a0_6 = some r) ∧ qA0 (kq ≤ kj1) ∧ qA0 (wc.heap[gb127]? = some (.cells #[.string a0_0, .int .i64 a0_1, .bool false, .int .i64 a0_3, .int .i64 a0_4, .int .i64 a0_5, .int .i64 a0_6] 98 (0, 0))) ∧ qA0 (Below w.heap.size w wc))
  case first =>
   have H := HC27.out
   clear HC27
   obtain ⟨-, c29b0, c29b1, H⟩ | ⟨c29, c29b0, c29b1, H⟩ := y4 H
   rotate_left
   ·(first | rw [c29b0] | (simp only [qCI, qCO]; rw [c29b0]) | skip)
    have H' := zq H
    clear H
    have hcz31 := bc7 BK127.out
    go_wp2
    go_meet
    case rel => exact ⟨_, (true), zs, H', ⟨by have := HJ1.out; first | omega | exact Nat.le_refl _⟩, ⟨zk BK127⟩, ⟨zb⟩⟩
   (first | rw [c29b0] | (simp only [qCI, qCO]; rw [c29b0]) | skip)
   have H' := zq H
   clear H
   have hcz30 := bc7 BK127.out
   go_wp2
   go_meet
   case rel => exact ⟨_, ((a0_4 != 0)), zs, H', ⟨by have := HJ1.out; first | omega | exact Nat.le_refl _⟩, ⟨zk BK127⟩, ⟨zb⟩⟩
  clear HC27 hcz28
  obtain ⟨kq, x52_26, rfl, HA, HJ26, BK127, HB⟩ := hcut
  obtain _ | kj26 := kq
  ·exact absurd HA.out (by simp [qBO.j2])
  have H := HA.out
  clear HA
  simp only [qBO.j2] at H
  by_cases c32 : x52_26 = true
  ·subst c32
   rw [if_pos rfl] at H
   obtain rfl := zy H
   go_wp2
   go_ret
   exact ⟨zf, zb⟩
  replace c32 := Bool.eq_false_iff.mpr c32
  subst c32
  rw [zj] at H
  replace H := zi H
  obtain ⟨t133, A330, H⟩ := H
  have A33 := zq A330
  clear A330
  obtain ⟨-, c34b0, c34b1, H⟩ | ⟨c34, c34b0, c34b1, H⟩ := y4 H
  rotate_left
  ·obtain rfl := zy H
   have hcz46 := bc7 BK127.out
   go_wp2_with (((with_reducible refine qCV (f := 59) rfl ?_); refine qBY (some 55) Tryz.func59 #[.agg #[.int .i64 a0_5, .int .i64 a0_6]] ?_; (with_reducible refine (qCM.calls a0_5 a0_6 t133 _ A33.out).mono ?_); rintro e w47 ⟨rfl, hb⟩; refine ⟨_, rfl, ?_⟩; replace BK127 := zK BK127 hb; replace HB := zB hb; (try clear hb hk); (try clear hb)))
   go_ret
   exact ⟨zf, zb⟩
  obtain ⟨-, c35b0, c35b1, H⟩ | ⟨c35, c35b0, c35b1, H⟩ := y4 H
  ·obtain rfl := zy H
   have hcz36 := bc7 BK127.out
   go_wp2_with (((with_reducible refine qCV (f := 59) rfl ?_); refine qBY (some 55) Tryz.func59 #[.agg #[.int .i64 a0_5, .int .i64 a0_6]] ?_; (with_reducible refine (qCM.calls a0_5 a0_6 t133 _ A33.out).mono ?_); rintro e w37 ⟨rfl, hb⟩; refine ⟨_, rfl, ?_⟩; replace BK127 := zK BK127 hb; replace HB := zB hb; (try clear hb hk); (try clear hb); have hcz38 := bc7 BK127.out))
   go_ret
   exact ⟨zf, zb⟩
  obtain ⟨-, c39b0, c39b1, H⟩ | ⟨c39, c39b0, c39b1, H⟩ := y4 H
  rotate_left
  ·obtain rfl := zy H
   have hcz43 := bc7 BK127.out
   go_wp2_with (((with_reducible refine qCV (f := 59) rfl ?_); refine qBY (some 55) Tryz.func59 #[.agg #[.int .i64 a0_5, .int .i64 a0_6]] ?_; (with_reducible refine (qCM.calls a0_5 a0_6 t133 _ A33.out).mono ?_); rintro e w44 ⟨rfl, hb⟩; refine ⟨_, rfl, ?_⟩; replace BK127 := zK BK127 hb; replace HB := zB hb; (try clear hb hk); (try clear hb); have hcz45 := bc7 BK127.out))
   go_ret
   exact ⟨zf, zb⟩
  obtain rfl := zy H
  have hcz40 := bc7 BK127.out
  go_wp2_with (((with_reducible refine qCV (f := 59) rfl ?_); refine qBY (some 55) Tryz.func59 #[.agg #[.int .i64 a0_5, .int .i64 a0_6]] ?_; (with_reducible refine (qCM.calls a0_5 a0_6 t133 _ A33.out).mono ?_); rintro e w41 ⟨rfl, hb⟩; refine ⟨_, rfl, ?_⟩; replace BK127 := zK BK127 hb; replace HB := zB hb; (try clear hb hk); (try clear hb); have hcz42 := bc7 BK127.out))
  go_ret
  exact ⟨zf, zb⟩
 subst c8
 rw [if_pos rfl] at H
 obtain ⟨c9, -, H⟩ | ⟨c9, -, H⟩ := y3 H
 ·have c9b0 : (!(a0_5 == 0) || (!(a0_6 == 0))) = true := c9
  clear c9
  obtain rfl := zy H
  have hcz10 := bc7 BK127.out
  go_wp2
  go_ret
  exact ⟨zf, zb⟩
 have c9b0 : (!(a0_5 == 0) || (!(a0_6 == 0))) = false := by simpa using c9
 clear c9
 obtain ⟨y128, hy_⟩ : ∃ y_ : List Int, y_ = (([a0_3, a0_4] : List Int)) := ⟨_, rfl⟩
 replace H : (qBO.l0 kj1 y128 (y128.length : Int) 0 a0_0 a0_1 true a0_3 a0_4 a0_5 a0_6) = some r := zr
 have Ny128 := zq hy_
 clear hy_
 have H' := zq H
 clear H
 have hcz11 := bc7 BK127.out
 go_wp2_with (((with_reducible refine qAS (N := 25) rfl ?_); refine Kd.qFV (Kd.int .i64) _ 3 ?hg (N := 25) ?hd (xs := ([a0_3, a0_4] : List Int)) (inner := [.int .i64 a0_3, .int .i64 a0_4]) (ok := fun _ => True) (okp := fun _ => True) ?hr ?hp (fun _ hk => hk) trivial (Below.refl _ _) (Nat.le_refl _) (by simp) ?_; (case hd => rfl); (case hg => rfl); (case hr => first | (go_simp; done) | (go_simp; rfl)); (case hp => exact (Reps.one (show Kd.M (Kd.int .i64) _ _ _ a0_3 [.int .i64 a0_3] from rfl) (Reps.one (show Kd.M (Kd.int .i64) _ _ _ a0_4 [.int .i64 a0_4] from rfl) (Reps.none _ _)))); intro v129 w12 ho13 hb hg_ hnew_; clear hg_ hnew_; (first | rw [← Ny128.out] at ho13 | (simp only [Int.reduceToNat] at ho13; rw [← Ny128.out] at ho13)); have HO130 := zq (Kd.qC3 ho13 (qAH zb)); replace BK127 := zK BK127 hb; replace HB := zB hb; clear hb ho13; obtain ⟨Ao14, co14, eo14⟩ := Kd.qBX HO130.out; subst eo14))
 go_loopg [27] kj1 (fun kq v27 w' => ∃ (x27_2 : Int), v27 = .int .i64 x27_2 ∧ qA0 (qBO.l0 kq y128 (y128.length : Int) x27_2 a0_0 a0_1 true a0_3 a0_4 a0_5 a0_6 = some r) ∧ qA0 (kq ≤ kj1) ∧ qA0 (Kd.R (Kd.int .i64) 3 w' w.heap.size (fun _ => True) (.slice Ao14 y128.length co14) y128) ∧ qA0 (w'.heap[gb127]? = some (.cells #[.string a0_0, .int .i64 a0_1, .bool true, .int .i64 a0_3, .int .i64 a0_4, .int .i64 a0_5, .int .i64 a0_6] 98 (0, 0))) ∧ qA0 (Below w.heap.size w w'))
 case atStart => exact ⟨(0), zs, H', ⟨Nat.le_refl _⟩, zR HO130, ⟨zk BK127⟩, ⟨zb⟩⟩
 clear H' c9b0 hcz11
 obtain ⟨x27_2, rfl, HA, HK2, HO_25, BK127, HB⟩ := hrel
 obtain _ | k2 := gk
 ·exact absurd HA.out (by simp [qBO.l0])
 have H := HA.out
 clear HA
 simp only [qBO.l0] at H
 obtain ⟨-, c15b0, H⟩ | ⟨-, c15b0, H⟩ := y3 H
 rotate_left
 ·obtain ⟨-, c24b0, H⟩ | ⟨-, c24b0, H⟩ := y3 H
  rotate_left
  ·obtain rfl := zy H
   have hcz26 := bc7 BK127.out
   go_wp2
   go_ret
   exact ⟨zf, zb⟩
  obtain rfl := zy H
  have hcz25 := bc7 BK127.out
  go_wp2
  go_ret
  exact ⟨zf, zb⟩
 obtain ⟨-, c16b0, H⟩ := y1 H
 obtain ⟨-, c17b0, H⟩ := y1 H
 replace H := zi H
 obtain ⟨t132, A180, H⟩ := H
 have A18 := zq A180
 clear A180
 obtain ⟨-, c19b0, c19b1, H⟩ | ⟨c19, c19b0, c19b1, H⟩ := y4 H
 rotate_left
 ·obtain rfl := zy H
  obtain ⟨p131, q131, ad131, e131, hx131_0⟩ := yp (Kd.qCB (Kd.qAR HO_25.out).2.2 x27_2)
  cases e131
  have hcz22 := bc7 BK127.out
  go_wp2_with (((with_reducible refine qCV (f := 59) rfl ?_); refine qBY (some 35) Tryz.func59 #[.agg #[.int .i64 a0_1, .int .i64 (rd y128 x27_2)]] ?_; (with_reducible refine (qCM.calls a0_1 (rd y128 x27_2) t132 _ A18.out).mono ?_); rintro e w23 ⟨rfl, hb⟩; refine ⟨_, rfl, ?_⟩; replace HO_25 := zq (Kd.qBM (by (with_reducible repeat refine sR ?_); exact HO_25.out) hb); replace BK127 := zK BK127 hb; replace HB := zB hb; (try clear hb hk); (try clear hb)))
  go_ret
  exact ⟨zf, zb⟩
 have H' := zq H
 clear H
 obtain ⟨p131, q131, ad131, e131, hx131_0⟩ := yp (Kd.qCB (Kd.qAR HO_25.out).2.2 x27_2)
 cases e131
 have hcz20 := bc7 BK127.out
 go_wp2_with (((with_reducible refine qCV (f := 59) rfl ?_); refine qBY (some 35) Tryz.func59 #[.agg #[.int .i64 a0_1, .int .i64 (rd y128 x27_2)]] ?_; (with_reducible refine (qCM.calls a0_1 (rd y128 x27_2) t132 _ A18.out).mono ?_); rintro e w21 ⟨rfl, hb⟩; refine ⟨_, rfl, ?_⟩; replace HO_25 := zq (Kd.qBM (by (with_reducible repeat refine sR ?_); exact HO_25.out) hb); replace BK127 := zK BK127 hb; replace HB := zB hb; (try clear hb hk); (try clear hb)))
 go_roundg k2
 case measure => have := HJ1.out; have := HK2.out; omega
 case rel => exact ⟨(wrap64 (x27_2 + 1)), zs, H', ⟨by have := HJ1.out; have := HK2.out; omega⟩, zR HO_25, ⟨zk BK127⟩, ⟨zb⟩⟩
def qCP.okc (x : Int) : Bool := decide (97 ≤ x ∧ x ≤ 122 ∨ 48 ≤ x ∧ x ≤ 57 ∨ x = 45)
def qCP.b (s : ByteArray) : Bool := if s.toList = [] then false else if 20 < s.size then false else if bt s 0 < 97 then false else (List.range s.size).all fun j => qCP.okc (bt s (j : Int))
def qCP.f (s : ByteArray) : Option Bool := some (qCP.b s)
theorem qCP.calls (a0 : ByteArray) (r : Bool) (w : World) (h : qCP.f a0 = some r) :
  Calls Tryz.prog 60 #[.string a0] w fun e w' => e = .returned (.bool r) ∧ Below w.heap.size w w' := by
 have h := zy h
 unfold qCP.b at h
 by_cases c1 : a0.toList = []
 ·rw [if_pos c1] at h
  subst h
  have ⟨c1b0, c1b1⟩ := ze c1
  clear c1
  go_enter Tryz.func60, Tryz.ntmps60
  go_wp2
  go_ret
  exact ⟨rfl, by repeat (first | exact Below.refl _ _ | apply qA8)⟩
 rw [if_neg c1] at h
 have hne : 0 < a0.size := by
  rcases Nat.eq_zero_or_pos a0.size with e | e
  ·exfalso
   apply c1
   have e2 : a0 = ⟨#[]⟩ := by
    cases a0 with
    | mk d => have : d.size = 0 := e; rw [Array.size_eq_zero_iff] at this; rw [this]
   rw [e2]; simp [ByteArray.toList, ByteArray.toList.loop, ByteArray.size]
  ·exact e
 have ⟨c1b0, c1b1⟩ := zn c1
 clear c1
 by_cases c2 : 20 < a0.size
 ·rw [if_pos c2] at h
  subst h
  have c2b0 : decide (20 < (a0.size : Int)) = true := decide_eq_true (by omega)
  have c2b1 := decide_eq_true c2
  clear c2
  go_enter Tryz.func60, Tryz.ntmps60
  go_wp2
  go_ret
  exact ⟨rfl, by repeat (first | exact Below.refl _ _ | apply qA8)⟩
 rw [if_neg c2] at h
 have c2b0 : decide (20 < (a0.size : Int)) = false := decide_eq_false (by omega)
 have c2b1 := decide_eq_false c2
 have hsz : a0.size ≤ 20 := by omega
 clear c2
 have hx6 : ∀ h : 0 < a0.size, ((a0[0]'h).toNat : Int) = bt a0 0 := bt_at a0 0
 have q6 := eq_true hne
 have qi6 : (0 < (a0.size : Int)) = True := eq_true (by omega)
 by_cases c3 : bt a0 0 < 97
 ·rw [if_pos c3] at h
  subst h
  have c3b0 := decide_eq_true c3
  clear c3
  go_enter Tryz.func60, Tryz.ntmps60
  go_wp2
  go_ret
  exact ⟨rfl, by repeat (first | exact Below.refl _ _ | apply qA8)⟩
 rw [if_neg c3] at h
 have c3b0 := decide_eq_false c3
 clear c3
 have hcv := fun W => print_bytes (P := Tryz.prog) 9 165 5 Tryz.underlying9 Tryz.underlying165 Tryz.underlying5 a0 W
 have HH := zq h
 clear h
 have HB := zq (bytes_below (Below.refl w.heap.size w) (Nat.le_refl _) 5 a0)
 have HC := zq (fun j (hj : j < a0.size) => (Lib.bytesWorld_cell w 5 a0 j hj).trans (congrArg (fun x => some (Value.int .u8 x)) (show (((a0.data.toList.getD j 0).toNat : Nat) : Int) = bt a0 (j : Int) from by
  rw [← rd_bytesOf]
  have h' : j < a0.data.toList.length := by rw [data_length]; exact hj
  simp [rd, bytesOf, List.getD_eq_getElem?_getD, List.getElem?_eq_getElem h'])))
 go_enter Tryz.func60, Tryz.ntmps60
 go_wp2
 generalize hW : Lib.bytesWorld w 5 a0 = W at HB HC ⊢
 clear hW hcv
 go_loop [20] (fun v20 => ∃ i : Nat, i ≤ a0.size ∧ v20 = .int .i64 i ∧ qA0 (∀ j, j < i → qCP.okc (bt a0 (j : Int)) = true)) (fun v20 => a0.size - (RowKit.intOf v20).toNat)
 case atStart => exact ⟨0, by omega, rfl, ⟨fun j hj => by omega⟩⟩
 obtain ⟨i, hi, rfl, HJ⟩ := hrel
 by_cases hlt : i < a0.size
 rotate_left
 ·obtain rfl : i = a0.size := by omega
  have hr : r = true := by
   rw [← HH.out, List.all_eq_true]
   intro j hj
   exact HJ.out j (List.mem_range.1 hj)
  subst hr
  go_wp2
  go_ret
  exact ⟨rfl, HB.out⟩
 have hc := HC.out i hlt
 obtain ⟨g0, g1⟩ := bt_range a0 (i : Int)
 generalize hx : bt a0 (i : Int) = x at *
 have HX := zq hx
 clear hx
 by_cases hok : qCP.okc x = true
 ·have HJ' : qA0 (∀ j, j < i + 1 → qCP.okc (bt a0 (j : Int)) = true) := ⟨fun j hj => by
   rcases Nat.lt_or_ge j i with h | h
   ·exact HJ.out j h
   ·obtain rfl : j = i := by omega
    rw [HX.out]; exact hok⟩
  have hd := of_decide_eq_true hok
  have hs : IntKind.i64.wrap ((i : Int) + 1) = ((i + 1 : Nat) : Int) := by rw [IntKind.wrap_i64]; omega
  by_cases d1 : 97 ≤ x <;> by_cases d2 : x ≤ 122 <;> by_cases d3 : 48 ≤ x <;> by_cases d4 : x ≤ 57 <;> by_cases d5 : x = 45
  all_goals first
   | (exfalso; omega)
   | (have e1 : decide (97 ≤ x) = true := decide_eq_true d1) | (have e1 : decide (97 ≤ x) = false := decide_eq_false d1)
  all_goals first
   | (have e2 : decide (x ≤ 122) = true := decide_eq_true d2) | (have e2 : decide (x ≤ 122) = false := decide_eq_false d2)
  all_goals first
   | (have e3 : decide (48 ≤ x) = true := decide_eq_true d3) | (have e3 : decide (48 ≤ x) = false := decide_eq_false d3)
  all_goals first
   | (have e4 : decide (x ≤ 57) = true := decide_eq_true d4) | (have e4 : decide (x ≤ 57) = false := decide_eq_false d4)
  all_goals first
   | (have e5 : (x == 45) = true := beq_iff_eq.mpr d5) | (have e5 : (x == 45) = false := beq_eq_false_iff_ne.mpr d5)
  all_goals
   clear d1 d2 d3 d4 d5 hd hok
   go_wp2
   go_round
   case rel => exact ⟨i + 1, by omega, by first | rfl | (simp; done) | (rw [Int.natCast_add]; rfl), HJ'⟩
   case measure => simp [RowKit.intOf]; omega
 have hr : r = false := by
  rw [← HH.out]
  apply Bool.eq_false_iff.2
  intro hall
  rw [List.all_eq_true] at hall
  have := hall i (List.mem_range.2 hlt)
  rw [HX.out] at this
  exact hok this
 subst hr
 have hd : ¬ (97 ≤ x ∧ x ≤ 122 ∨ 48 ≤ x ∧ x ≤ 57 ∨ x = 45) := fun h => hok (decide_eq_true h)
 by_cases d1 : 97 ≤ x <;> by_cases d2 : x ≤ 122 <;> by_cases d3 : 48 ≤ x <;> by_cases d4 : x ≤ 57
 all_goals first
  | (exfalso; omega)
  | (have e1 : decide (97 ≤ x) = true := decide_eq_true d1) | (have e1 : decide (97 ≤ x) = false := decide_eq_false d1)
 all_goals first
  | (have e2 : decide (x ≤ 122) = true := decide_eq_true d2) | (have e2 : decide (x ≤ 122) = false := decide_eq_false d2)
 all_goals first
  | (have e3 : decide (48 ≤ x) = true := decide_eq_true d3) | (have e3 : decide (48 ≤ x) = false := decide_eq_false d3)
 all_goals first
  | (have e4 : decide (x ≤ 57) = true := decide_eq_true d4) | (have e4 : decide (x ≤ 57) = false := decide_eq_false d4)
 all_goals
  have e5 : (x == 45) = false := beq_eq_false_iff_ne.mpr (by omega)
  clear d1 d2 d3 d4 hd hok
  go_wp2
  go_ret
  exact ⟨rfl, HB.out⟩
def qDB.f (a0_0 : ByteArray) (a0_1 : Int) (a0_2 : Int) (a0_3 : Bool) (l0_4 : List (S75)) : Option (Bool) := if a0_1 ≥ 2 then (if a0_2 = 2 then (if a0_1 ≤ 6 then (if a0_3 = true then (if a0_1 = 2 then (some (a0_2 == 2)) else (some false)) else (some true)) else (some false)) else (if a0_2 = 3 then (if a0_1 ≤ 6 then (if a0_3 = true then (if a0_1 = 2 then (some (a0_2 == 2)) else (some false)) else (some true)) else (some false)) else (if a0_2 = 5 then (if a0_1 ≤ 6 then (if a0_3 = true then (if a0_1 = 2 then (some (a0_2 == 2)) else (some false)) else (some true)) else (some false)) else (if a0_1 ≤ 6 then (if a0_2 = 6 then (if a0_3 = true then (if a0_1 = 2 then (some (a0_2 == 2)) else (some false)) else (some true)) else (some false)) else (some false))))) else (if a0_2 = 2 then (some false) else (if a0_2 = 3 then (some false) else (if a0_2 = 5 then (some false) else (some false))))
theorem qDB.calls (a0_0 : ByteArray) (a0_1 : Int) (a0_2 : Int) (a0_3 : Bool) (A0_4 : Option Addr) (c0_4 : Nat) (l0_4 : List (S75)) (r : Bool) (w : World) (hr0_4 : Kd.C k75 w A0_4 l0_4.length l0_4) (hc0_4 : l0_4.length ≤ c0_4) (h : qDB.f a0_0 a0_1 a0_2 a0_3 l0_4 = some r) :
  Calls Tryz.prog 61 #[.agg #[.string a0_0, .int .i64 a0_1, .int .i64 a0_2, .bool a0_3, .slice A0_4 l0_4.length c0_4]] w fun e w' => e = .returned (.bool r) ∧ Below w.heap.size w w' := by
 have hu73 := Tryz.underlying73
 have HR0_4 := zq hr0_4
 have HC0_4 := zq hc0_4
 clear hr0_4 hc0_4
 have HB := zq (Below.refl w.heap.size w)
 have H := h
 unfold qDB.f at H
 clear h
 obtain ⟨-, c2b0, H⟩ | ⟨-, c2b0, H⟩ := y3 H
 rotate_left
 ·obtain ⟨-, c53b0, c53b1, H⟩ | ⟨c53, c53b0, c53b1, H⟩ := y4 H
  ·obtain rfl := zy H
   go_enter Tryz.func61, Tryz.ntmps61
   go_wp2_with (((with_reducible refine qAS (N := 1) rfl ?_); refine boxZ 1 #[.string a0_0, .int .i64 a0_1, .int .i64 a0_2, .bool a0_3, .slice A0_4 l0_4.length c0_4] 73 ?_; intro gb134 hg w54 hbox hb; have BK134 := zq (hbox); have GW134 := zg w gb134; have GE134 := zg w gb134; replace HB := zB hb; clear hb hbox hg; have hcz55 := bc5 BK134.out))
   go_ret
   exact ⟨zf, zb⟩
  obtain ⟨-, c56b0, c56b1, H⟩ | ⟨c56, c56b0, c56b1, H⟩ := y4 H
  ·obtain rfl := zy H
   go_enter Tryz.func61, Tryz.ntmps61
   go_wp2_with (((with_reducible refine qAS (N := 1) rfl ?_); refine boxZ 1 #[.string a0_0, .int .i64 a0_1, .int .i64 a0_2, .bool a0_3, .slice A0_4 l0_4.length c0_4] 73 ?_; intro gb134 hg w57 hbox hb; have BK134 := zq (hbox); have GW134 := zg w gb134; have GE134 := zg w gb134; replace HB := zB hb; clear hb hbox hg; have hcz58 := bc5 BK134.out))
   go_ret
   exact ⟨zf, zb⟩
  obtain ⟨-, c59b0, c59b1, H⟩ | ⟨c59, c59b0, c59b1, H⟩ := y4 H
  rotate_left
  ·obtain rfl := zy H
   go_enter Tryz.func61, Tryz.ntmps61
   go_wp2_with (((with_reducible refine qAS (N := 1) rfl ?_); refine boxZ 1 #[.string a0_0, .int .i64 a0_1, .int .i64 a0_2, .bool a0_3, .slice A0_4 l0_4.length c0_4] 73 ?_; intro gb134 hg w62 hbox hb; have BK134 := zq (hbox); have GW134 := zg w gb134; have GE134 := zg w gb134; replace HB := zB hb; clear hb hbox hg; have hcz63 := bc5 BK134.out))
   go_ret
   exact ⟨zf, zb⟩
  obtain rfl := zy H
  go_enter Tryz.func61, Tryz.ntmps61
  go_wp2_with (((with_reducible refine qAS (N := 1) rfl ?_); refine boxZ 1 #[.string a0_0, .int .i64 a0_1, .int .i64 a0_2, .bool a0_3, .slice A0_4 l0_4.length c0_4] 73 ?_; intro gb134 hg w60 hbox hb; have BK134 := zq (hbox); have GW134 := zg w gb134; have GE134 := zg w gb134; replace HB := zB hb; clear hb hbox hg; have hcz61 := bc5 BK134.out))
  go_ret
  exact ⟨zf, zb⟩
 obtain ⟨-, c3b0, c3b1, H⟩ | ⟨c3, c3b0, c3b1, H⟩ := y4 H
 ·obtain ⟨-, c4b0, H⟩ | ⟨-, c4b0, H⟩ := y3 H
  rotate_left
  ·obtain rfl := zy H
   go_enter Tryz.func61, Tryz.ntmps61
   go_wp2_with (((with_reducible refine qAS (N := 1) rfl ?_); refine boxZ 1 #[.string a0_0, .int .i64 a0_1, .int .i64 a0_2, .bool a0_3, .slice A0_4 l0_4.length c0_4] 73 ?_; intro gb134 hg w13 hbox hb; have BK134 := zq (hbox); have GW134 := zg w gb134; have GE134 := zg w gb134; replace HB := zB hb; clear hb hbox hg; have hcz14 := bc5 BK134.out))
   go_ret
   exact ⟨zf, zb⟩
  by_cases c5 : a0_3 = true
  rotate_left
  ·replace c5 := Bool.eq_false_iff.mpr c5
   subst c5
   rw [zj] at H
   obtain rfl := zy H
   go_enter Tryz.func61, Tryz.ntmps61
   go_wp2_with (((with_reducible refine qAS (N := 1) rfl ?_); refine boxZ 1 #[.string a0_0, .int .i64 a0_1, .int .i64 a0_2, .bool false, .slice A0_4 l0_4.length c0_4] 73 ?_; intro gb134 hg w11 hbox hb; have BK134 := zq (hbox); have GW134 := zg w gb134; have GE134 := zg w gb134; replace HB := zB hb; clear hb hbox hg; have hcz12 := bc5 BK134.out))
   go_ret
   exact ⟨zf, zb⟩
  subst c5
  rw [if_pos rfl] at H
  obtain ⟨-, c6b0, c6b1, H⟩ | ⟨c6, c6b0, c6b1, H⟩ := y4 H
  rotate_left
  ·obtain rfl := zy H
   go_enter Tryz.func61, Tryz.ntmps61
   go_wp2_with (((with_reducible refine qAS (N := 1) rfl ?_); refine boxZ 1 #[.string a0_0, .int .i64 a0_1, .int .i64 a0_2, .bool true, .slice A0_4 l0_4.length c0_4] 73 ?_; intro gb134 hg w9 hbox hb; have BK134 := zq (hbox); have GW134 := zg w gb134; have GE134 := zg w gb134; replace HB := zB hb; clear hb hbox hg; have hcz10 := bc5 BK134.out))
   go_ret
   exact ⟨zf, zb⟩
  obtain rfl := zy H
  go_enter Tryz.func61, Tryz.ntmps61
  go_wp2_with (((with_reducible refine qAS (N := 1) rfl ?_); refine boxZ 1 #[.string a0_0, .int .i64 a0_1, .int .i64 a0_2, .bool true, .slice A0_4 l0_4.length c0_4] 73 ?_; intro gb134 hg w7 hbox hb; have BK134 := zq (hbox); have GW134 := zg w gb134; have GE134 := zg w gb134; replace HB := zB hb; clear hb hbox hg; have hcz8 := bc5 BK134.out))
  go_ret
  exact ⟨zf, zb⟩
 obtain ⟨-, c15b0, c15b1, H⟩ | ⟨c15, c15b0, c15b1, H⟩ := y4 H
 ·obtain ⟨-, c16b0, H⟩ | ⟨-, c16b0, H⟩ := y3 H
  rotate_left
  ·obtain rfl := zy H
   go_enter Tryz.func61, Tryz.ntmps61
   go_wp2_with (((with_reducible refine qAS (N := 1) rfl ?_); refine boxZ 1 #[.string a0_0, .int .i64 a0_1, .int .i64 a0_2, .bool a0_3, .slice A0_4 l0_4.length c0_4] 73 ?_; intro gb134 hg w25 hbox hb; have BK134 := zq (hbox); have GW134 := zg w gb134; have GE134 := zg w gb134; replace HB := zB hb; clear hb hbox hg; have hcz26 := bc5 BK134.out))
   go_ret
   exact ⟨zf, zb⟩
  by_cases c17 : a0_3 = true
  rotate_left
  ·replace c17 := Bool.eq_false_iff.mpr c17
   subst c17
   rw [zj] at H
   obtain rfl := zy H
   go_enter Tryz.func61, Tryz.ntmps61
   go_wp2_with (((with_reducible refine qAS (N := 1) rfl ?_); refine boxZ 1 #[.string a0_0, .int .i64 a0_1, .int .i64 a0_2, .bool false, .slice A0_4 l0_4.length c0_4] 73 ?_; intro gb134 hg w23 hbox hb; have BK134 := zq (hbox); have GW134 := zg w gb134; have GE134 := zg w gb134; replace HB := zB hb; clear hb hbox hg; have hcz24 := bc5 BK134.out))
   go_ret
   exact ⟨zf, zb⟩
  subst c17
  rw [if_pos rfl] at H
  obtain ⟨-, c18b0, c18b1, H⟩ | ⟨c18, c18b0, c18b1, H⟩ := y4 H
  rotate_left
  ·obtain rfl := zy H
   go_enter Tryz.func61, Tryz.ntmps61
   go_wp2_with (((with_reducible refine qAS (N := 1) rfl ?_); refine boxZ 1 #[.string a0_0, .int .i64 a0_1, .int .i64 a0_2, .bool true, .slice A0_4 l0_4.length c0_4] 73 ?_; intro gb134 hg w21 hbox hb; have BK134 := zq (hbox); have GW134 := zg w gb134; have GE134 := zg w gb134; replace HB := zB hb; clear hb hbox hg; have hcz22 := bc5 BK134.out))
   go_ret
   exact ⟨zf, zb⟩
  obtain rfl := zy H
  go_enter Tryz.func61, Tryz.ntmps61
  go_wp2_with (((with_reducible refine qAS (N := 1) rfl ?_); refine boxZ 1 #[.string a0_0, .int .i64 a0_1, .int .i64 a0_2, .bool true, .slice A0_4 l0_4.length c0_4] 73 ?_; intro gb134 hg w19 hbox hb; have BK134 := zq (hbox); have GW134 := zg w gb134; have GE134 := zg w gb134; replace HB := zB hb; clear hb hbox hg; have hcz20 := bc5 BK134.out))
  go_ret
  exact ⟨zf, zb⟩
 obtain ⟨-, c27b0, c27b1, H⟩ | ⟨c27, c27b0, c27b1, H⟩ := y4 H
 ·obtain ⟨-, c28b0, H⟩ | ⟨-, c28b0, H⟩ := y3 H
  rotate_left
  ·obtain rfl := zy H
   go_enter Tryz.func61, Tryz.ntmps61
   go_wp2_with (((with_reducible refine qAS (N := 1) rfl ?_); refine boxZ 1 #[.string a0_0, .int .i64 a0_1, .int .i64 a0_2, .bool a0_3, .slice A0_4 l0_4.length c0_4] 73 ?_; intro gb134 hg w37 hbox hb; have BK134 := zq (hbox); have GW134 := zg w gb134; have GE134 := zg w gb134; replace HB := zB hb; clear hb hbox hg; have hcz38 := bc5 BK134.out))
   go_ret
   exact ⟨zf, zb⟩
  by_cases c29 : a0_3 = true
  rotate_left
  ·replace c29 := Bool.eq_false_iff.mpr c29
   subst c29
   rw [zj] at H
   obtain rfl := zy H
   go_enter Tryz.func61, Tryz.ntmps61
   go_wp2_with (((with_reducible refine qAS (N := 1) rfl ?_); refine boxZ 1 #[.string a0_0, .int .i64 a0_1, .int .i64 a0_2, .bool false, .slice A0_4 l0_4.length c0_4] 73 ?_; intro gb134 hg w35 hbox hb; have BK134 := zq (hbox); have GW134 := zg w gb134; have GE134 := zg w gb134; replace HB := zB hb; clear hb hbox hg; have hcz36 := bc5 BK134.out))
   go_ret
   exact ⟨zf, zb⟩
  subst c29
  rw [if_pos rfl] at H
  obtain ⟨-, c30b0, c30b1, H⟩ | ⟨c30, c30b0, c30b1, H⟩ := y4 H
  rotate_left
  ·obtain rfl := zy H
   go_enter Tryz.func61, Tryz.ntmps61
   go_wp2_with (((with_reducible refine qAS (N := 1) rfl ?_); refine boxZ 1 #[.string a0_0, .int .i64 a0_1, .int .i64 a0_2, .bool true, .slice A0_4 l0_4.length c0_4] 73 ?_; intro gb134 hg w33 hbox hb; have BK134 := zq (hbox); have GW134 := zg w gb134; have GE134 := zg w gb134; replace HB := zB hb; clear hb hbox hg; have hcz34 := bc5 BK134.out))
   go_ret
   exact ⟨zf, zb⟩
  obtain rfl := zy H
  go_enter Tryz.func61, Tryz.ntmps61
  go_wp2_with (((with_reducible refine qAS (N := 1) rfl ?_); refine boxZ 1 #[.string a0_0, .int .i64 a0_1, .int .i64 a0_2, .bool true, .slice A0_4 l0_4.length c0_4] 73 ?_; intro gb134 hg w31 hbox hb; have BK134 := zq (hbox); have GW134 := zg w gb134; have GE134 := zg w gb134; replace HB := zB hb; clear hb hbox hg; have hcz32 := bc5 BK134.out))
  go_ret
  exact ⟨zf, zb⟩
 obtain ⟨-, c39b0, H⟩ | ⟨-, c39b0, H⟩ := y3 H
 rotate_left
 ·obtain rfl := zy H
  go_enter Tryz.func61, Tryz.ntmps61
  go_wp2_with (((with_reducible refine qAS (N := 1) rfl ?_); refine boxZ 1 #[.string a0_0, .int .i64 a0_1, .int .i64 a0_2, .bool a0_3, .slice A0_4 l0_4.length c0_4] 73 ?_; intro gb134 hg w51 hbox hb; have BK134 := zq (hbox); have GW134 := zg w gb134; have GE134 := zg w gb134; replace HB := zB hb; clear hb hbox hg; have hcz52 := bc5 BK134.out))
  go_ret
  exact ⟨zf, zb⟩
 obtain ⟨-, c40b0, c40b1, H⟩ | ⟨c40, c40b0, c40b1, H⟩ := y4 H
 rotate_left
 ·obtain rfl := zy H
  go_enter Tryz.func61, Tryz.ntmps61
  go_wp2_with (((with_reducible refine qAS (N := 1) rfl ?_); refine boxZ 1 #[.string a0_0, .int .i64 a0_1, .int .i64 a0_2, .bool a0_3, .slice A0_4 l0_4.length c0_4] 73 ?_; intro gb134 hg w49 hbox hb; have BK134 := zq (hbox); have GW134 := zg w gb134; have GE134 := zg w gb134; replace HB := zB hb; clear hb hbox hg; have hcz50 := bc5 BK134.out))
  go_ret
  exact ⟨zf, zb⟩
 by_cases c41 : a0_3 = true
 rotate_left
 ·replace c41 := Bool.eq_false_iff.mpr c41
  subst c41
  rw [zj] at H
  obtain rfl := zy H
  go_enter Tryz.func61, Tryz.ntmps61
  go_wp2_with (((with_reducible refine qAS (N := 1) rfl ?_); refine boxZ 1 #[.string a0_0, .int .i64 a0_1, .int .i64 a0_2, .bool false, .slice A0_4 l0_4.length c0_4] 73 ?_; intro gb134 hg w47 hbox hb; have BK134 := zq (hbox); have GW134 := zg w gb134; have GE134 := zg w gb134; replace HB := zB hb; clear hb hbox hg; have hcz48 := bc5 BK134.out))
  go_ret
  exact ⟨zf, zb⟩
 subst c41
 rw [if_pos rfl] at H
 obtain ⟨-, c42b0, c42b1, H⟩ | ⟨c42, c42b0, c42b1, H⟩ := y4 H
 rotate_left
 ·obtain rfl := zy H
  go_enter Tryz.func61, Tryz.ntmps61
  go_wp2_with (((with_reducible refine qAS (N := 1) rfl ?_); refine boxZ 1 #[.string a0_0, .int .i64 a0_1, .int .i64 a0_2, .bool true, .slice A0_4 l0_4.length c0_4] 73 ?_; intro gb134 hg w45 hbox hb; have BK134 := zq (hbox); have GW134 := zg w gb134; have GE134 := zg w gb134; replace HB := zB hb; clear hb hbox hg; have hcz46 := bc5 BK134.out))
  go_ret
  exact ⟨zf, zb⟩
 obtain rfl := zy H
 go_enter Tryz.func61, Tryz.ntmps61
 go_wp2_with (((with_reducible refine qAS (N := 1) rfl ?_); refine boxZ 1 #[.string a0_0, .int .i64 a0_1, .int .i64 a0_2, .bool true, .slice A0_4 l0_4.length c0_4] 73 ?_; intro gb134 hg w43 hbox hb; have BK134 := zq (hbox); have GW134 := zg w gb134; have GE134 := zg w gb134; replace HB := zB hb; clear hb hbox hg; have hcz44 := bc5 BK134.out))
 go_ret
 exact ⟨zf, zb⟩
mutual
def qB0.j0 : Nat → Int → Int → Int → Int → ByteArray → Int → Int → Bool → List (S75) → Option (Int)
 | 0, _, _, _, _, _, _, _, _, _ => none
 | k + 1, x3, x4, x5, x6, x136000, x136001, x136002, x136003, x136004 => qB0.l0 k x3 x4 x5 x6 x136004 (x136004.length : Int) 0 x136000 x136001 x136002 x136003 x136004
def qB0.l0 : Nat → Int → Int → Int → Int → List (S75) → Int → Int → ByteArray → Int → Int → Bool → List (S75) → Option (Int)
 | 0, _, _, _, _, _, _, _, _, _, _, _, _ => none
 | k + 1, x3, x4, x5, x6, x43, x44, x45, x136000, x136001, x136002, x136003, x136004 => if x45 < x44 then (if 0 ≤ x45 then (if x45 < (x43.length : Int) then (if ((qD0 x43 x45).f0) < x3 then (qB0.j2 k x3 x4 x5 x6 x45 x43 x44 x45 true x136000 x136001 x136002 x136003 x136004 ((qD0 x43 x45).f0) ((qD0 x43 x45).f1)) else (if ((qD0 x43 x45).f0) > x4 then (qB0.j2 k x3 x4 x5 x6 x45 x43 x44 x45 true x136000 x136001 x136002 x136003 x136004 ((qD0 x43 x45).f0) ((qD0 x43 x45).f1)) else (if ((qD0 x43 x45).f1) < x5 then (qB0.j2 k x3 x4 x5 x6 x45 x43 x44 x45 true x136000 x136001 x136002 x136003 x136004 ((qD0 x43 x45).f0) ((qD0 x43 x45).f1)) else (qB0.j2 k x3 x4 x5 x6 x45 x43 x44 x45 (decide (((qD0 x43 x45).f1) > x6)) x136000 x136001 x136002 x136003 x136004 ((qD0 x43 x45).f0) ((qD0 x43 x45).f1))))) else (none)) else (none)) else (some 0)
def qB0.j2 : Nat → Int → Int → Int → Int → Int → List (S75) → Int → Int → Bool → ByteArray → Int → Int → Bool → List (S75) → Int → Int → Option (Int)
 | 0, _, _, _, _, _, _, _, _, _, _, _, _, _, _, _, _ => none
 | k + 1, x3, x4, x5, x6, x7, x43, x44, x45, x50, x136000, x136001, x136002, x136003, x136004, x144000, x144001 => if x50 = true then (some 2) else (if x7 > 0 then (if 0 ≤ (wrap64 (x7 - 1)) then (if (wrap64 (x7 - 1)) < (x136004.length : Int) then (if x144000 ≤ ((qD0 x136004 (wrap64 (x7 - 1))).f0) then (some 9) else (qB0.l0 k x3 x4 x5 x6 x43 x44 (wrap64 (x45 + 1)) x136000 x136001 x136002 x136003 x136004)) else (none)) else (none)) else (qB0.l0 k x3 x4 x5 x6 x43 x44 (wrap64 (x45 + 1)) x136000 x136001 x136002 x136003 x136004))
end
def qB0.f (k : Nat) (a0_0 : ByteArray) (a0_1 : Int) (a0_2 : Int) (a0_3 : Bool) (l0_4 : List (S75)) : Option (Int) := (qCP.f a0_0).bind fun t136 => (if t136 = true then ((qDB.f a0_0 a0_1 a0_2 a0_3 l0_4).bind fun t137 => (if t137 = true then (if (l0_4.length : Int) = 0 then (some 13) else (if (l0_4.length : Int) > 20 then (some 2) else ((qCS.f a0_1).bind fun bt138 => ((qCS.f a0_2).bind fun bt140 => (if a0_3 = true then (qB0.j0 k bt138.1 bt138.2 0 1000000 a0_0 a0_1 a0_2 a0_3 l0_4) else (qB0.j0 k bt138.1 bt138.2 bt140.1 bt140.2 a0_0 a0_1 a0_2 a0_3 l0_4)))))) else (some 8))) else (some 15))
theorem qB0.calls (k : Nat) (a0_0 : ByteArray) (a0_1 : Int) (a0_2 : Int) (a0_3 : Bool) (A0_4 : Option Addr) (c0_4 : Nat) (l0_4 : List (S75)) (r : Int) (w : World) (hr0_4 : Kd.C k75 w A0_4 l0_4.length l0_4) (hc0_4 : l0_4.length ≤ c0_4) (h : qB0.f k a0_0 a0_1 a0_2 a0_3 l0_4 = some r) :
  Calls Tryz.prog 44 #[.agg #[.string a0_0, .int .i64 a0_1, .int .i64 a0_2, .bool a0_3, .slice A0_4 l0_4.length c0_4]] w fun e w' => e = .returned (.int .i64 r) ∧ Below w.heap.size w w' := by
 have hu73 := Tryz.underlying73
 have hu75 := Tryz.underlying75
 have HR0_4 := zq hr0_4
 have HC0_4 := zq hc0_4
 clear hr0_4 hc0_4
 have HB := zq (Below.refl w.heap.size w)
 have H := h
 unfold qB0.f at H
 clear h
 replace H := zi H
 obtain ⟨t136, A20, H⟩ := H
 have A2 := zq A20
 clear A20
 by_cases c3 : t136 = true
 rotate_left
 ·replace c3 := Bool.eq_false_iff.mpr c3
  subst c3
  rw [zj] at H
  obtain rfl := zy H
  go_enter Tryz.func44, Tryz.ntmps44
  go_wp2_with (first | (refine boxY 1 #[.string a0_0, .int .i64 a0_1, .int .i64 a0_2, .bool a0_3, .slice A0_4 l0_4.length c0_4] 73 ?_; intro gb135 hg w66 BK135 hb; have GW135 := zg w gb135; replace HB := zB hb; clear hb hg; have hcz67 := bc5 BK135.out) | (go_at_call 60; (with_reducible refine (qCP.calls a0_0 false _ A2.out).mono ?_); rintro e w68 ⟨rfl, hb⟩; replace BK135 := zK BK135 hb; replace HB := zB hb; (try clear hb hk); (try clear hb)))
  go_ret
  exact ⟨zf, zb⟩
 subst c3
 rw [if_pos rfl] at H
 replace H := zi H
 obtain ⟨t137, A40, H⟩ := H
 have A4 := zq A40
 clear A40
 by_cases c5 : t137 = true
 rotate_left
 ·replace c5 := Bool.eq_false_iff.mpr c5
  subst c5
  rw [zj] at H
  obtain rfl := zy H
  go_enter Tryz.func44, Tryz.ntmps44
  go_wp2_with (first | (refine boxY 1 #[.string a0_0, .int .i64 a0_1, .int .i64 a0_2, .bool a0_3, .slice A0_4 l0_4.length c0_4] 73 ?_; intro gb135 hg w61 BK135 hb; have GW135 := zg w gb135; replace HB := zB hb; clear hb hg; have hcz62 := bc5 BK135.out) | (go_at_call 60; (with_reducible refine (qCP.calls a0_0 true _ A2.out).mono ?_); rintro e w63 ⟨rfl, hb⟩; replace BK135 := zK BK135 hb; replace HB := zB hb; (try clear hb hk); (try clear hb); have hcz64 := bc5 BK135.out) | (go_at_call 61; (with_reducible refine (qDB.calls a0_0 a0_1 a0_2 a0_3 _ _ l0_4 false _ ?side1 ?side2 A4.out).mono ?_); (case side1 => repeat (first | exact (Kd.qAB HR0_4.out HB.out) | refine sC ?_)); (case side2 => exact HC0_4.out); rintro e w65 ⟨rfl, hb⟩; replace BK135 := zK BK135 hb; replace HB := zB hb; (try clear hb hk); (try clear hb)))
  go_ret
  exact ⟨zf, zb⟩
 subst c5
 rw [if_pos rfl] at H
 obtain ⟨-, c6b0, c6b1, H⟩ | ⟨c6, c6b0, c6b1, H⟩ := y4 H
 ·obtain rfl := zy H
  go_enter Tryz.func44, Tryz.ntmps44
  go_wp2_with (first | (refine boxY 1 #[.string a0_0, .int .i64 a0_1, .int .i64 a0_2, .bool a0_3, .slice A0_4 l0_4.length c0_4] 73 ?_; intro gb135 hg w7 BK135 hb; have GW135 := zg w gb135; replace HB := zB hb; clear hb hg; have hcz8 := bc5 BK135.out) | (go_at_call 60; (with_reducible refine (qCP.calls a0_0 true _ A2.out).mono ?_); rintro e w9 ⟨rfl, hb⟩; replace BK135 := zK BK135 hb; replace HB := zB hb; (try clear hb hk); (try clear hb); have hcz10 := bc5 BK135.out) | (go_at_call 61; (with_reducible refine (qDB.calls a0_0 a0_1 a0_2 a0_3 _ _ l0_4 true _ ?side1 ?side2 A4.out).mono ?_); (case side1 => repeat (first | exact (Kd.qAB HR0_4.out HB.out) | refine sC ?_)); (case side2 => exact HC0_4.out); rintro e w11 ⟨rfl, hb⟩; replace BK135 := zK BK135 hb; replace HB := zB hb; (try clear hb hk); (try clear hb); have hcz12 := bc5 BK135.out))
  go_ret
  exact ⟨zf, zb⟩
 have c6b2 : ¬ (l0_4 = []) := fun h_ => c6 (by rw [h_]; rfl)
 obtain ⟨c13, c13b0, H⟩ | ⟨c13, c13b0, H⟩ := y3 H
 ·have c13b1 : decide (20 < l0_4.length) = true := decide_eq_true (by omega)
  clear c13
  obtain rfl := zy H
  go_enter Tryz.func44, Tryz.ntmps44
  go_wp2_with (first | (refine boxY 1 #[.string a0_0, .int .i64 a0_1, .int .i64 a0_2, .bool a0_3, .slice A0_4 l0_4.length c0_4] 73 ?_; intro gb135 hg w14 BK135 hb; have GW135 := zg w gb135; replace HB := zB hb; clear hb hg; have hcz15 := bc5 BK135.out) | (go_at_call 60; (with_reducible refine (qCP.calls a0_0 true _ A2.out).mono ?_); rintro e w16 ⟨rfl, hb⟩; replace BK135 := zK BK135 hb; replace HB := zB hb; (try clear hb hk); (try clear hb); have hcz17 := bc5 BK135.out) | (go_at_call 61; (with_reducible refine (qDB.calls a0_0 a0_1 a0_2 a0_3 _ _ l0_4 true _ ?side1 ?side2 A4.out).mono ?_); (case side1 => repeat (first | exact (Kd.qAB HR0_4.out HB.out) | refine sC ?_)); (case side2 => exact HC0_4.out); rintro e w18 ⟨rfl, hb⟩; replace BK135 := zK BK135 hb; replace HB := zB hb; (try clear hb hk); (try clear hb); have hcz19 := bc5 BK135.out))
  go_ret
  exact ⟨zf, zb⟩
 have c13b1 : decide (20 < l0_4.length) = false := decide_eq_false (by omega)
 clear c13
 replace H := zi H
 obtain ⟨⟨t138, t139⟩, A200, H⟩ := H
 dsimp only at H
 have A20 := zq A200
 clear A200
 replace H := zi H
 obtain ⟨⟨t140, t141⟩, A210, H⟩ := H
 dsimp only at H
 have A21 := zq A210
 clear A210
 have HC22 := zq H
 clear H
 go_enter Tryz.func44, Tryz.ntmps44
 go_upto_if 41 with (first | (refine boxY 1 #[.string a0_0, .int .i64 a0_1, .int .i64 a0_2, .bool a0_3, .slice A0_4 l0_4.length c0_4] 73 ?_; intro gb135 hg w23 BK135 hb; have GW135 := zg w gb135; replace HB := zB hb; clear hb hg; have hcz24 := bc5 BK135.out) | (go_at_call 60; (with_reducible refine (qCP.calls a0_0 true _ A2.out).mono ?_); rintro e w25 ⟨rfl, hb⟩; replace BK135 := zK BK135 hb; replace HB := zB hb; (try clear hb hk); (try clear hb); have hcz26 := bc5 BK135.out) | (go_at_call 61; (with_reducible refine (qDB.calls a0_0 a0_1 a0_2 a0_3 _ _ l0_4 true _ ?side1 ?side2 A4.out).mono ?_); (case side1 => repeat (first | exact (Kd.qAB HR0_4.out HB.out) | refine sC ?_)); (case side2 => exact HC0_4.out); rintro e w27 ⟨rfl, hb⟩; replace BK135 := zK BK135 hb; replace HB := zB hb; (try clear hb hk); (try clear hb); have hcz28 := bc5 BK135.out) | (go_at_call 62; (with_reducible refine (qCS.calls a0_1 t138 t139 _ A20.out).mono ?_); rintro e w' ⟨rfl, ⟨nd, rfl⟩⟩; (try first | exact ⟨rfl, _, World.drewN_drewN _ _ _⟩ | exact ⟨rfl, _, Eq.trans (World.drewN_drewN _ _ _) (congrArg (World.drewN _) (Nat.add_assoc _ _ _))⟩)) | (go_at_call 62; (with_reducible refine (qCS.calls a0_2 t140 t141 _ A21.out).mono ?_); rintro e w' ⟨rfl, ⟨nd, rfl⟩⟩; (try first | exact ⟨rfl, _, World.drewN_drewN _ _ _⟩ | exact ⟨rfl, _, Eq.trans (World.drewN_drewN _ _ _) (congrArg (World.drewN _) (Nat.add_assoc _ _ _))⟩)))
 go_cut [5, 6] (fun v5 v6 wc => ∃ (kq : Nat) (x5_21 : Int) (x6_21 : Int), v5 = .int .i64 x5_21 ∧ v6 = .int .i64 x6_21 ∧ qA0 (qB0.j0 kq t138 t139 x5_21 x6_21 a0_0 a0_1 a0_2 a0_3 l0_4 = some r) ∧ qA0 (kq ≤ k) ∧ qA0 (wc.heap[gb135]? = some (.cells #[.string a0_0, .int .i64 a0_1, .int .i64 a0_2, .bool a0_3, (.slice A0_4 l0_4.length c0_4)] 73 (0, 0))) ∧ qA0 (Below w.heap.size w wc))
 case first =>
  have H := HC22.out
  clear HC22
  by_cases c29 : a0_3 = true
  ·subst c29
   rw [if_pos rfl] at H
   have H' := zq H
   clear H
   go_wp2
   go_meet
   case rel => exact ⟨_, (0), (1000000), zs, zs, H', ⟨by first | omega | exact Nat.le_refl _⟩, ⟨zk BK135⟩, ⟨zb⟩⟩
  replace c29 := Bool.eq_false_iff.mpr c29
  subst c29
  rw [zj] at H
  have H' := zq H
  clear H
  go_wp2
  go_meet
  case rel => exact ⟨_, (t140), (t141), zs, zs, H', ⟨by first | omega | exact Nat.le_refl _⟩, ⟨zk BK135⟩, ⟨zb⟩⟩
 clear HC22 c6 c6b0 c6b1 c6b2 c13b0 c13b1 hcz24 hcz26 hcz28
 obtain ⟨kq, x5_21, x6_21, rfl, rfl, HA, HJ21, BK135, HB⟩ := hcut
 obtain _ | kj21 := kq
 ·exact absurd HA.out (by simp [qB0.j0])
 have H := HA.out
 clear HA
 simp only [qB0.j0] at H
 have H' := zq H
 clear H
 have hcz30 := bc5 BK135.out
 go_wp2
 go_loopg [45] kj21 (fun kq v45 w' => ∃ (x45_2 : Int), v45 = .int .i64 x45_2 ∧ qA0 (qB0.l0 kq t138 t139 x5_21 x6_21 l0_4 (l0_4.length : Int) x45_2 a0_0 a0_1 a0_2 a0_3 l0_4 = some r) ∧ qA0 (kq ≤ kj21) ∧ qA0 (w'.heap[gb135]? = some (.cells #[.string a0_0, .int .i64 a0_1, .int .i64 a0_2, .bool a0_3, (.slice A0_4 l0_4.length c0_4)] 73 (0, 0))) ∧ qA0 (Below w.heap.size w w'))
 case atStart => exact ⟨(0), zs, H', ⟨Nat.le_refl _⟩, ⟨zk BK135⟩, ⟨zb⟩⟩
 clear H' hcz30
 obtain ⟨x45_2, rfl, HA, HK2, BK135, HB⟩ := hrel
 obtain _ | k2 := gk
 ·exact absurd HA.out (by simp [qB0.l0])
 have H := HA.out
 clear HA
 simp only [qB0.l0] at H
 obtain ⟨-, c31b0, H⟩ | ⟨-, c31b0, H⟩ := y3 H
 rotate_left
 ·obtain rfl := zy H
  go_wp2
  go_ret
  exact ⟨zf, zb⟩
 obtain ⟨-, c32b0, H⟩ := y1 H
 obtain ⟨-, c33b0, H⟩ := y1 H
 have HC34 := zq H
 clear H
 obtain ⟨p142, q142, ad142, e142, hx142_0, hx142_1⟩ := yp (at_T75 HR0_4.out x45_2)
 cases e142
 (try replace hx142_0 := zh hx142_0)
 replace hx142_1 := zh hx142_1
 go_upto_region 16 with ((refine boxY 8 #[.int .i64 0, .int .i64 0] 75 ?_; intro gb143 hg w35 BK143 hb; have GW143 := zg w gb143; have NB135_143 := zl BK135 gb143; have NB143_135 := zu BK135 gb143; replace BK135 := zK BK135 hb; replace HB := zB hb; clear hb hg; have hnb36 := NB143_135.out; have hnc36 := NB135_143.out; have hcz37 := bc2 BK143.out))
 go_cut [50] (fun v50 wc => ∃ (kq : Nat) (x50_33 : Bool), v50 = .bool x50_33 ∧ qA0 (qB0.j2 kq t138 t139 x5_21 x6_21 x45_2 l0_4 (l0_4.length : Int) x45_2 x50_33 a0_0 a0_1 a0_2 a0_3 l0_4 ((qD0 l0_4 x45_2).f0) ((qD0 l0_4 x45_2).f1) = some r) ∧ qA0 (kq ≤ k2) ∧ qA0 (wc.heap[gb135]? = some (.cells #[.string a0_0, .int .i64 a0_1, .int .i64 a0_2, .bool a0_3, (.slice (some ad142) l0_4.length c0_4)] 73 (0, 0))) ∧ qA0 (wc.heap[gb143]? = some (.cells #[.int .i64 ((qD0 l0_4 x45_2).f0), .int .i64 ((qD0 l0_4 x45_2).f1)] 75 (0, 0))) ∧ qA0 (Below w.heap.size w wc))
 case first =>
  have H := HC34.out
  clear HC34
  obtain ⟨-, c38b0, H⟩ | ⟨-, c38b0, H⟩ := y3 H
  ·(first | rw [c38b0] | (simp only [qCI, qCO]; rw [c38b0]) | skip)
   have H' := zq H
   clear H
   have hnb39 := NB143_135.out
   have hnc39 := NB135_143.out
   have hcz40 := bc2 BK143.out
   go_wp2
   go_meet
   case rel => exact ⟨_, (true), zs, H', ⟨by have := HJ21.out; have := HK2.out; first | omega | exact Nat.le_refl _⟩, ⟨by refine zf2 ?_ NB135_143; (with_reducible repeat refine st ?_); exact BK135.out⟩, ⟨zp2 BK143⟩, ⟨zb⟩⟩
  (first | rw [c38b0] | (simp only [qCI, qCO]; rw [c38b0]) | skip)
  obtain ⟨-, c41b0, H⟩ | ⟨-, c41b0, H⟩ := y3 H
  ·have H' := zq H
   clear H
   have hnb42 := NB143_135.out
   have hnc42 := NB135_143.out
   have hcz43 := bc2 BK143.out
   go_wp2
   go_meet
   case rel => exact ⟨_, (true), zs, H', ⟨by have := HJ21.out; have := HK2.out; first | omega | exact Nat.le_refl _⟩, ⟨by refine zf2 ?_ NB135_143; (with_reducible repeat refine st ?_); exact BK135.out⟩, ⟨zp2 BK143⟩, ⟨zb⟩⟩
  obtain ⟨-, c44b0, H⟩ | ⟨-, c44b0, H⟩ := y3 H
  rotate_left
  ·have H' := zq H
   clear H
   have hnb47 := NB143_135.out
   have hnc47 := NB135_143.out
   have hcz48 := bc2 BK143.out
   go_wp2
   go_meet
   case rel => exact ⟨_, (decide (((qD0 l0_4 x45_2).f1) > x6_21)), zs, H', ⟨by have := HJ21.out; have := HK2.out; first | omega | exact Nat.le_refl _⟩, ⟨by refine zf2 ?_ NB135_143; (with_reducible repeat refine st ?_); exact BK135.out⟩, ⟨zp2 BK143⟩, ⟨zb⟩⟩
  have H' := zq H
  clear H
  have hnb45 := NB143_135.out
  have hnc45 := NB135_143.out
  have hcz46 := bc2 BK143.out
  go_wp2
  go_meet
  case rel => exact ⟨_, (true), zs, H', ⟨by have := HJ21.out; have := HK2.out; first | omega | exact Nat.le_refl _⟩, ⟨by refine zf2 ?_ NB135_143; (with_reducible repeat refine st ?_); exact BK135.out⟩, ⟨zp2 BK143⟩, ⟨zb⟩⟩
 clear HC34 c31b0 c32b0 c33b0 hcz37 hx142_0 hx142_1 p142 q142
 obtain ⟨kq, x50_33, rfl, HA, HJ33, BK135, BK143, HB⟩ := hcut
 obtain _ | kj33 := kq
 ·exact absurd HA.out (by simp [qB0.j2])
 have H := HA.out
 clear HA
 simp only [qB0.j2] at H
 by_cases c49 : x50_33 = true
 ·subst c49
  rw [if_pos rfl] at H
  obtain rfl := zy H
  go_wp2
  go_ret
  exact ⟨zf, zb⟩
 replace c49 := Bool.eq_false_iff.mpr c49
 subst c49
 rw [zj] at H
 obtain ⟨-, c50b0, H⟩ | ⟨-, c50b0, H⟩ := y3 H
 rotate_left
 ·have H' := zq H
  clear H
  go_wp2
  repeat (go_quiet (fail); try go_wp2)
  go_roundg kj33
  case measure => have := HJ21.out; have := HK2.out; have := HJ33.out; omega
  case rel => exact ⟨(wrap64 (x45_2 + 1)), zs, H', ⟨by have := HJ21.out; have := HK2.out; have := HJ33.out; omega⟩, ⟨zk BK135⟩, ⟨zb⟩⟩
 obtain ⟨ji51, hji51⟩ : ∃ j_ : Int, (wrap64 (x45_2 - 1)) = j_ := ⟨_, rfl⟩
 replace H : (if 0 ≤ (ji51) then (if (ji51) < (l0_4.length : Int) then (if ((qD0 l0_4 x45_2).f0) ≤ ((qD0 l0_4 (ji51)).f0) then (some 9) else (qB0.l0 kj33 t138 t139 x5_21 x6_21 l0_4 (l0_4.length : Int) (wrap64 (x45_2 + 1)) a0_0 a0_1 a0_2 a0_3 l0_4)) else (none)) else (none)) = some r := by first | (rw [hji51] at H; exact H) | (simp only [hji51] at H ⊢; exact H)
 have hji51w : (IntKind.i64.wrap (x45_2 - 1)) = ji51 := (qCI _).trans hji51
 obtain ⟨-, c52b0, H⟩ := y1 H
 obtain ⟨-, c53b0, H⟩ := y1 H
 obtain ⟨-, c54b0, H⟩ | ⟨-, c54b0, H⟩ := y3 H
 ·obtain rfl := zy H
  have hnb55 := NB143_135.out
  have hnc55 := NB135_143.out
  have hcz56 := bc2 BK143.out
  have hcz57 := bc5 BK135.out
  obtain ⟨p144, q144, ad144, e144, hx144_0, hx144_1⟩ := yp (at_T75 HR0_4.out (ji51))
  obtain rfl : ad142 = ad144 := (by injection e144)
  (try replace hx144_0 := zh hx144_0)
  replace hx144_1 := zh hx144_1
  go_wp2
  repeat (go_quiet (fail); try go_wp2)
  go_ret
  exact ⟨by first | rfl | (simp [qD9, qD8] <;> rfl) | (simp only [← hji51]; first | rfl | (simp [qD9, qD8] <;> rfl)) | (simp [*, qD9, qD8] <;> rfl), zb⟩
 have H' := zq H
 clear H
 have hnb58 := NB143_135.out
 have hnc58 := NB135_143.out
 have hcz59 := bc2 BK143.out
 have hcz60 := bc5 BK135.out
 obtain ⟨p144, q144, ad144, e144, hx144_0, hx144_1⟩ := yp (at_T75 HR0_4.out (ji51))
 obtain rfl : ad142 = ad144 := (by injection e144)
 (try replace hx144_0 := zh hx144_0)
 replace hx144_1 := zh hx144_1
 go_wp2
 repeat (go_quiet (fail); try go_wp2)
 go_roundg kj33
 case measure => have := HJ21.out; have := HK2.out; have := HJ33.out; omega
 case rel => exact ⟨(wrap64 (x45_2 + 1)), zs, H', ⟨by have := HJ21.out; have := HK2.out; have := HJ33.out; omega⟩, ⟨zk BK135⟩, ⟨zb⟩⟩
def attrF (x : S98) : Option Int := qBO.f 10 x.f0 x.f1 x.f2 x.f3 x.f4 x.f5.f0 x.f5.f1
def tableF (t : S73) : Option Int := qB0.f 50 t.f0 t.f1 t.f2 t.f3 t.f4
def qEF {α : Type} (nm : α → ByteArray) (ck : α → Option Int) : List α → List ByteArray → Option (Int × List ByteArray)
 | [], L => some (0, L)
 | x :: xs, L => if L.length < 1000000 then (if addR L (nm x) ≠ 0 then some (addR L (nm x), L) else (ck x).bind fun e => if e ≠ 0 then some (e, L) else qEF nm ck xs (nm x :: L)) else none
def qBF.k2 (a : S49) (next : List ByteArray → Option Int) (q : Int × List ByteArray) : Option Int := if q.1 ≠ 0 then some q.1 else next q.2
def qBF.k1 (a : S49) (B : List ByteArray) (next : List ByteArray → List ByteArray → Option Int) (p : Int × List ByteArray) : Option Int := if p.1 ≠ 0 then some p.1 else (qEF (fun t : S73 => t.f0) tableF a.f4 B).bind (qBF.k2 a (next p.2))
def qBF.go : List S49 → List ByteArray → List ByteArray → List ByteArray → Option Int
 | [], _, _, _ => some 0
 | a :: r, A, T, B => if A.length < 1000000 then (if addR A a.f0 ≠ 0 then some (addR A a.f0) else if a.f1 < 0 ∨ 9 < a.f1 ∨ a.f2 < 0 ∨ 1048575 < a.f2 then some 1 else (qEF (fun x : S98 => x.f0) attrF a.f3 T).bind (qBF.k1 a B fun T' B' => qBF.go r (a.f0 :: A) T' B')) else none
def qBF.f (l0 : List S49) : Option Int := qBF.go l0 [] [] []
structure PInv (w W : World) (A T B : List ByteArray) : Prop where
 hB : Below w.heap.size w W
 hA : Names W w.heap.size A
 hT : Names W (w.heap.size + 1) T
 hN : Names W (w.heap.size + 1 + 1) B
theorem PInv.below {w W W' : World} {A T B : List ByteArray} (h : PInv w W A T B) (hb : Below W.heap.size W W') : PInv w W' A T B := ⟨qA7 h.hB hb, h.hA.below hb, h.hT.below hb, h.hN.below hb⟩
theorem PInv.putA {w W W' : World} {A T B A' : List ByteArray} (h : PInv w W A T B) (hg : W.grownBy W' (some w.heap.size)) (hn : Names W' w.heap.size A') : PInv w W' A' T B :=
 ⟨qBI h.hB (some w.heap.size) h.hB.size hg (fun k e => by obtain rfl := zy e; exact Nat.le_refl _), hn, h.hT.kept hg (by simp), h.hN.kept hg (by simp; omega)⟩
theorem PInv.putT {w W W' : World} {A T B T' : List ByteArray} (h : PInv w W A T B) (hg : W.grownBy W' (some (w.heap.size + 1))) (hn : Names W' (w.heap.size + 1) T') : PInv w W' A T' B :=
 ⟨qBI h.hB (some (w.heap.size + 1)) h.hB.size hg (fun k e => by obtain rfl := zy e; omega), h.hA.kept hg (by simp), hn, h.hN.kept hg (by simp)⟩
theorem PInv.putB {w W W' : World} {A T B B' : List ByteArray} (h : PInv w W A T B) (hg : W.grownBy W' (some (w.heap.size + 1 + 1))) (hn : Names W' (w.heap.size + 1 + 1) B') : PInv w W' A T B' :=
 ⟨qBI h.hB (some (w.heap.size + 1 + 1)) h.hB.size hg (fun k e => by obtain rfl := zy e; omega), h.hA.kept hg (by simp; omega), h.hT.kept hg (by simp), hn⟩
theorem qBF.calls (A0 : Option Addr) (c0 : Nat) (l0 : List (S49)) (r : Int) (w : World) (hr0 : Kd.C k49 w A0 l0.length l0) (hc0 : l0.length ≤ c0) (h : qBF.f l0 = some r) :
  Calls Tryz.prog 14 #[.slice A0 l0.length c0] w fun e w' => e = .returned (.int .i64 r) ∧ Below w.heap.size w w' := by
 have HR := zq hr0
 have HC := zq hc0
 have H0 := zq h
 have hm : l0.length ≤ 9223372036854775807 := Kd.qE9 hr0
 clear hr0 hc0 h
 generalize hW0 : ((w.alloc (.map #[] 0)).alloc (.map #[] 0)).alloc (.map #[] 0) = W0
 have HP0 : PInv w W0 [] [] [] := by
  rw [← hW0]
  have b1 : Below w.heap.size w (w.alloc (.map #[] 0)) := qAA (Below.refl _ _) _
  have b2 : Below (w.alloc (.map #[] 0)).heap.size (w.alloc (.map #[] 0)) ((w.alloc (.map #[] 0)).alloc (.map #[] 0)) := qAA (Below.refl _ _) _
  have b3 : Below ((w.alloc (.map #[] 0)).alloc (.map #[] 0)).heap.size ((w.alloc (.map #[] 0)).alloc (.map #[] 0)) (((w.alloc (.map #[] 0)).alloc (.map #[] 0)).alloc (.map #[] 0)) := qAA (Below.refl _ _) _
  have n2 := Names.made (w.alloc (.map #[] 0))
  have n3 := Names.made ((w.alloc (.map #[] 0)).alloc (.map #[] 0))
  rw [show (w.alloc (.map #[] 0)).heap.size = w.heap.size + 1 from by simp] at n2
  rw [show ((w.alloc (.map #[] 0)).alloc (.map #[] 0)).heap.size = w.heap.size + 1 + 1 from by simp] at n3
  exact ⟨qA7 (qA7 b1 b2) b3, ((Names.made w).below b2).below b3, n2.below b3, n3⟩
 have HW0 := zq hW0
 have HP := zq HP0
 clear hW0 HP0
 have hmm := @run_makeMap Tryz.prog
 go_enter Tryz.func14, Tryz.ntmps14
 go_wp2_with fail
 rw [HW0.out]
 clear HW0
 go_loopw [22] (fun v22 wr => ∃ (i : Nat) (A T B : List ByteArray), i ≤ l0.length ∧ v22 = .int .i64 (i : Int) ∧ qA0 (qBF.go (l0.drop i) A T B = some r) ∧ qA0 (PInv w wr A T B)) (fun v22 _ => l0.length - (RowKit.intOf v22).toNat)
 case atStart => exact ⟨0, [], [], [], by omega, rfl, ⟨by simpa [qBF.f] using H0.out⟩, HP⟩
 clear H0 HP
 obtain ⟨i, A, T, B, hi, rfl, HG, HP⟩ := hrel
 by_cases hlt : i < l0.length
 rotate_left
 ·obtain rfl : i = l0.length := by omega
  have hr : r = 0 := by have := HG.out; rw [List.drop_length] at this; simp only [qBF.go] at this; exact (zy this).symm
  subst hr
  go_wp2_with fail
  go_ret
  exact ⟨rfl, HP.out.hB⟩
 obtain ⟨ad, A3, c3, A4, c4, A5, c5, e0, hx0, hx1, hx2, hx3, hx4, hx5, hl3, hi3, hl4, hi4, hl5, hi5⟩ := qEY HR.out (i : Int) (by omega) (by omega)
 cases e0
 simp only [Int.toNat_natCast] at hx0 hx1 hx2 hx3 hx4 hx5
 have hB := HP.out.hB
 replace hx0 := (hB.cell (World.block_lt_of_cell? w _ hx0)).trans hx0
 replace hx1 := (hB.cell (World.block_lt_of_cell? w _ hx1)).trans hx1
 replace hx2 := (hB.cell (World.block_lt_of_cell? w _ hx2)).trans hx2
 replace hx3 := (hB.cell (World.block_lt_of_cell? w _ hx3)).trans hx3
 replace hx4 := (hB.cell (World.block_lt_of_cell? w _ hx4)).trans hx4
 replace hx5 := (hB.cell (World.block_lt_of_cell? w _ hx5)).trans hx5
 have hd : l0.drop i = qA4 l0 (i : Int) :: l0.drop (i + 1) := by rw [List.drop_eq_getElem_cons hlt]; simp [qA4, hlt]
 have hG := HG.out
 rw [hd] at hG
 generalize qA4 l0 (i : Int) = a at *
 simp only [qBF.go] at hG
 have HG' := zq hG
 have HI3 := zq (And.intro hl3 hi3)
 have HI4 := zq (And.intro hl4 hi4)
 have HI5 := zq (And.intro hl5 hi5)
 clear hG HG hd hl3 hi3 hl4 hi4 hl5 hi5 hB
 by_cases hal : A.length < 1000000
 case neg => have := HG'.out; rw [if_neg hal] at this; cases this
 have HG1 := zq (by have := HG'.out; rwa [if_pos hal] at this)
 have hs := Gen.qEC hlt hm
 clear HG'
 obtain ⟨wo, rfl⟩ : ∃ wo : World, wo = wr := ⟨_, rfl⟩
 generalize hW1 : wo.alloc (.cells #[.string a.f0, .int .i64 a.f1, .int .i64 a.f2, .slice A3 a.f3.length c3, .slice A4 a.f4.length c4, .slice A5 a.f5.length c5] 49) = W1
 have hB1 : Below wo.heap.size wo W1 := by rw [← hW1]; exact qAA (Below.refl _ _) _
 have hK1 : W1.heap[wo.heap.size]? = some (.cells #[.string a.f0, .int .i64 a.f1, .int .i64 a.f2, .slice A3 a.f3.length c3, .slice A4 a.f4.length c4, .slice A5 a.f5.length c5] 49 (0, 0)) := by rw [← hW1]; exact heap_alloc_new _ _
 have HW1 := zq hW1
 have HP1 := zq (HP.out.below hB1)
 have HK1 := zq hK1
 have hpw : w.heap.size + 1 + 1 < wo.heap.size := HP.out.hN.lt
 clear hW1 hB1 hK1 HP
 go_wp2_with fail
 rw [HW1.out]
 refine (names_add.walk w.heap.size A a.f0 W1 HP1.out.hA (by simp only [maxLen]; omega)).mono ?_
 rintro e W2 ⟨rfl, hn, hg⟩
 have HK2 := zq (qAF HK1.out hg (by simp; omega))
 have HP2 := zq (HP1.out.putA hg hn)
 clear hn hg HK1 HP1 HW1 hx0 hx1 hx2 hx3 hx4 hx5
 generalize addR A a.f0 = e1 at *
 by_cases c1 : e1 = 0
 case neg =>
  have hr : r = e1 := by have := HG1.out; rw [if_pos c1] at this; exact (zy this).symm
  subst hr
  have c1b : (r != 0) = true := bne_iff_ne.mpr c1
  clear c1
  go_wp2_with fail
  go_ret
  exact ⟨rfl, HP2.out.hB⟩
 subst c1
 have HG2 := zq (by have := HG1.out; rwa [if_neg (by simp)] at this)
 rw [if_pos rfl] at HP2
 clear HG1 hal
 have k0 := (qA1 HK2.out 0).trans rfl
 have k1 := (qA1 HK2.out 1).trans rfl
 have k2 := (qA1 HK2.out 2).trans rfl
 have k3 := (qA1 HK2.out 3).trans rfl
 by_cases d1 : a.f1 < 0
 ·have hr : r = 1 := by have := HG2.out; rw [if_pos (.inl d1)] at this; exact (zy this).symm
  subst hr
  have d1b : decide (a.f1 < 0) = true := decide_eq_true d1
  clear d1
  go_wp2_with fail
  go_ret
  exact ⟨rfl, HP2.out.hB⟩
 have d1b : decide (a.f1 < 0) = false := decide_eq_false d1
 by_cases d2 : 9 < a.f1
 ·have hr : r = 1 := by have := HG2.out; rw [if_pos (.inr (.inl d2))] at this; exact (zy this).symm
  subst hr
  have d2b : decide (9 < a.f1) = true := decide_eq_true d2
  clear d1 d2
  go_wp2_with fail
  go_ret
  exact ⟨rfl, HP2.out.hB⟩
 have d2b : decide (9 < a.f1) = false := decide_eq_false d2
 by_cases d3 : a.f2 < 0
 ·have hr : r = 1 := by have := HG2.out; rw [if_pos (.inr (.inr (.inl d3)))] at this; exact (zy this).symm
  subst hr
  have d3b : decide (a.f2 < 0) = true := decide_eq_true d3
  clear d1 d2 d3
  go_wp2_with fail
  go_ret
  exact ⟨rfl, HP2.out.hB⟩
 have d3b : decide (a.f2 < 0) = false := decide_eq_false d3
 by_cases d4 : 1048575 < a.f2
 ·have hr : r = 1 := by have := HG2.out; rw [if_pos (.inr (.inr (.inr d4)))] at this; exact (zy this).symm
  subst hr
  have d4b : decide (1048575 < a.f2) = true := decide_eq_true d4
  clear d1 d2 d3 d4
  go_wp2_with fail
  go_ret
  exact ⟨rfl, HP2.out.hB⟩
 have d4b : decide (1048575 < a.f2) = false := decide_eq_false d4
 have HG3 := zq (by have := HG2.out; rwa [if_neg (by omega)] at this)
 clear d1 d2 d3 d4 HG2
 have hm3 := Kd.qE9 HI3.out.2
 have hm4 := Kd.qE9 HI4.out.2
 have HS := zq hs
 clear hs
 go_wp2_with fail
 clear d1b d2b d3b d4b k0 k1 k2 k3
 go_loopw [54] (fun v54 wx => ∃ (j : Nat) (T' : List ByteArray), j ≤ a.f3.length ∧ v54 = .int .i64 (j : Int) ∧ qA0 ((qEF (fun x : S98 => x.f0) attrF (a.f3.drop j) T').bind (qBF.k1 a B fun T' B' => qBF.go (l0.drop (i + 1)) (a.f0 :: A) T' B') = some r) ∧ qA0 (PInv w wx (a.f0 :: A) T' B) ∧ qA0 (wx.heap[wo.heap.size]? = some (.cells #[.string a.f0, .int .i64 a.f1, .int .i64 a.f2, .slice A3 a.f3.length c3, .slice A4 a.f4.length c4, .slice A5 a.f5.length c5] 49 (0, 0)))) (fun v54 _ => a.f3.length - (RowKit.intOf v54).toNat)
 case atStart => exact ⟨0, T, by omega, rfl, ⟨by simpa using HG3.out⟩, HP2, HK2⟩
 clear HG3 HP2 HK2
 obtain ⟨j, T', hj, rfl, HG4, HP4, HK4⟩ := hrel
 by_cases hjl : j < a.f3.length
 ·obtain ⟨ad3, e3, y0, y1, y2, y3, y4, y5, y6⟩ := at_T98 HI3.out.2 (j : Int) (by omega) (by omega)
  cases e3
  simp only [Int.toNat_natCast] at y0 y1 y2 y3 y4 y5 y6
  have hB := HP4.out.hB
  replace y0 := (hB.cell (World.block_lt_of_cell? w _ y0)).trans y0
  replace y1 := (hB.cell (World.block_lt_of_cell? w _ y1)).trans y1
  replace y2 := (hB.cell (World.block_lt_of_cell? w _ y2)).trans y2
  replace y3 := (hB.cell (World.block_lt_of_cell? w _ y3)).trans y3
  replace y4 := (hB.cell (World.block_lt_of_cell? w _ y4)).trans y4
  replace y5 := (hB.cell (World.block_lt_of_cell? w _ y5)).trans y5
  replace y6 := (hB.cell (World.block_lt_of_cell? w _ y6)).trans y6
  have hd : a.f3.drop j = qC4 a.f3 (j : Int) :: a.f3.drop (j + 1) := by rw [List.drop_eq_getElem_cons hjl]; simp [qC4, hjl]
  have hG := HG4.out
  rw [hd] at hG
  generalize qC4 a.f3 (j : Int) = x at hG y0 y1 y2 y3 y4 y5 y6
  simp only [qEF] at hG
  have hs := Gen.qEC hjl hm3
  by_cases hal : T'.length < 1000000
  case neg => rw [if_neg hal] at hG; cases hG
  rw [if_pos hal] at hG
  have HG5 := zq hG
  clear hG HG4 hd hB
  obtain ⟨wi, rfl⟩ : ∃ wi : World, wi = wr := ⟨_, rfl⟩
  generalize hW5 : wi.alloc (.cells #[.string x.f0, .int .i64 x.f1, .bool x.f2, .int .i64 x.f3, .int .i64 x.f4, .int .i64 x.f5.f0, .int .i64 x.f5.f1] 98) = W5
  have hB5 : Below wi.heap.size wi W5 := by rw [← hW5]; exact qAA (Below.refl _ _) _
  have hK5 : W5.heap[wi.heap.size]? = some (.cells #[.string x.f0, .int .i64 x.f1, .bool x.f2, .int .i64 x.f3, .int .i64 x.f4, .int .i64 x.f5.f0, .int .i64 x.f5.f1] 98 (0, 0)) := by rw [← hW5]; exact heap_alloc_new _ _
  have HW5 := zq hW5
  have HP5 := zq (HP4.out.below hB5)
  have HK5 := zq hK5
  have HKo5 := zq (qAF HK4.out (qAN hB5 none) (by simp))
  have hpi : w.heap.size + 1 + 1 < wi.heap.size := HP4.out.hN.lt
  have hpo : w.heap.size + 1 + 1 < wo.heap.size := hpw
  clear hW5 hB5 hK5 HP4 HK4
  go_wp2_with fail
  rw [HW5.out]
  refine (names_add.walk (w.heap.size + 1) T' x.f0 W5 HP5.out.hT (by simp only [maxLen]; omega)).mono ?_
  rintro e W6 ⟨rfl, hn, hg⟩
  have HK6 := zq (qAF HK5.out hg (by simp; omega))
  have HKo6 := zq (qAF HKo5.out hg (by simp; omega))
  have HP6 := zq (HP5.out.putT hg hn)
  clear hn hg HK5 HKo5 HP5 HW5 y0 y1 y2 y3 y4 y5 y6
  generalize addR T' x.f0 = e1 at *
  by_cases c1 : e1 = 0
  case neg =>
   have hr : r = e1 := by have := HG5.out; rw [if_pos c1, Option.bind_some] at this; simp only [qBF.k1] at this; rw [if_pos c1] at this; exact (zy this).symm
   subst hr
   have c1b : (r != 0) = true := bne_iff_ne.mpr c1
   clear c1
   go_wp2_with fail
   go_ret
   exact ⟨rfl, HP6.out.hB⟩
  subst c1
  rw [if_pos rfl] at HP6
  have hG6 := HG5.out
  rw [if_neg (by simp)] at hG6
  obtain ⟨q, hq, hK⟩ := Option.bind_eq_some_iff.mp hG6
  obtain ⟨ee, he, hF⟩ := Option.bind_eq_some_iff.mp hq
  have HE := zq he
  have HF := zq (And.intro hF hK)
  clear hG6 hq he hF hK HG5 hal
  have k0 := (qA1 HK6.out 0).trans rfl
  have k1 := (qA1 HK6.out 1).trans rfl
  have k2 := (qA1 HK6.out 2).trans rfl
  have k3 := (qA1 HK6.out 3).trans rfl
  have k4 := (qA1 HK6.out 4).trans rfl
  have k5 := (qA1 HK6.out 5).trans rfl
  have k6 := (qA1 HK6.out 6).trans rfl
  go_wp2_with fail
  refine (qBO.calls 10 x.f0 x.f1 x.f2 x.f3 x.f4 x.f5.f0 x.f5.f1 ee W6 HE.out).mono ?_
  rintro e W7 ⟨rfl, hb⟩
  have HP7 := zq (HP6.out.below hb)
  have HK7 := zq (qAF HKo6.out (qAN hb none) (by simp))
  clear hb HP6 HK6 HKo6 k0 k1 k2 k3 k4 k5 k6
  by_cases c2 : ee = 0
  ·have c2b : (ee != 0) = false := bne_eq_false_iff_eq.mpr c2
   have HG8 := zq (by have := HF.out.1; rw [if_neg (by simpa using c2)] at this; exact Option.bind_eq_some_iff.mpr ⟨q, this, HF.out.2⟩)
   clear c2 HF
   go_wp2_with fail
   go_roundw
   case rel => exact ⟨j + 1, x.f0 :: T', by omega, by first | rfl | (simp; done) | rw [Int.natCast_add]; rfl, HG8, HP7, HK7⟩
   case measure => simp [RowKit.intOf]; omega
  have hr : r = ee := by
   have := HF.out.1
   rw [if_pos (by simpa using c2)] at this
   have h2 := HF.out.2
   rw [← zy this] at h2
   simp only [qBF.k1] at h2
   rw [if_pos c2] at h2
   exact (zy h2).symm
  subst hr
  have c2b : (r != 0) = true := bne_iff_ne.mpr c2
  clear c2
  go_wp2_with fail
  go_ret
  exact ⟨rfl, HP7.out.hB⟩
 obtain rfl : j = a.f3.length := by omega
 have HG5 := zq (by have := HG4.out; rw [List.drop_length] at this; simpa [qEF, qBF.k1] using this)
 clear HG4 hj
 have k4 := (qA1 HK4.out 4).trans rfl
 go_wp2_with fail
 clear k4
 go_loopw [74] (fun v74 wx => ∃ (j : Nat) (T'' : List ByteArray), j ≤ a.f4.length ∧ v74 = .int .i64 (j : Int) ∧ qA0 ((qEF (fun t : S73 => t.f0) tableF (a.f4.drop j) T'').bind (qBF.k2 a ((fun T' B' => qBF.go (l0.drop (i + 1)) (a.f0 :: A) T' B') T')) = some r) ∧ qA0 (PInv w wx (a.f0 :: A) T' T'') ∧ qA0 (wx.heap[wo.heap.size]? = some (.cells #[.string a.f0, .int .i64 a.f1, .int .i64 a.f2, .slice A3 a.f3.length c3, .slice A4 a.f4.length c4, .slice A5 a.f5.length c5] 49 (0, 0)))) (fun v74 _ => a.f4.length - (RowKit.intOf v74).toNat)
 case atStart => exact ⟨0, B, by omega, rfl, ⟨by simpa using HG5.out⟩, HP4, HK4⟩
 clear HG5 HP4 HK4
 obtain ⟨T1, rfl⟩ : ∃ T1, T1 = T' := ⟨_, rfl⟩
 obtain ⟨j, T', hj, rfl, HG6, HP9, HK9⟩ := hrel
 by_cases hjl : j < a.f4.length
 rotate_left
 ·obtain rfl : j = a.f4.length := by omega
  have HG7 := zq (by have := HG6.out; rw [List.drop_length] at this; simpa [qEF, qBF.k2] using this)
  clear HG6 hj
  have hsn := HS.out
  go_wp2_with fail
  go_roundw
  case rel => exact ⟨i + 1, a.f0 :: A, T1, T', by omega, by first | rfl | (simp; done) | rw [Int.natCast_add]; rfl, HG7, HP9⟩
  case measure => simp [RowKit.intOf]; omega
 obtain ⟨ad4, A44, c44, e4, y0, y1, y2, y3, y4, hl44, hi44⟩ := at_T73 HI4.out.2 (j : Int) (by omega) (by omega)
 cases e4
 simp only [Int.toNat_natCast] at y0 y1 y2 y3 y4
 have hB := HP9.out.hB
 replace y0 := (hB.cell (World.block_lt_of_cell? w _ y0)).trans y0
 replace y1 := (hB.cell (World.block_lt_of_cell? w _ y1)).trans y1
 replace y2 := (hB.cell (World.block_lt_of_cell? w _ y2)).trans y2
 replace y3 := (hB.cell (World.block_lt_of_cell? w _ y3)).trans y3
 replace y4 := (hB.cell (World.block_lt_of_cell? w _ y4)).trans y4
 have hd : a.f4.drop j = qAK a.f4 (j : Int) :: a.f4.drop (j + 1) := by rw [List.drop_eq_getElem_cons hjl]; simp [qAK, hjl]
 have hG := HG6.out
 rw [hd] at hG
 generalize qAK a.f4 (j : Int) = x at hG y0 y1 y2 y3 y4 hl44 hi44
 have HI44 := zq (And.intro hl44 hi44)
 clear hl44 hi44
 simp only [qEF] at hG
 have hs := Gen.qEC hjl hm4
 by_cases hal : T'.length < 1000000
 case neg => rw [if_neg hal] at hG; cases hG
 rw [if_pos hal] at hG
 have HG7 := zq hG
 clear hG HG6 hd hB
 obtain ⟨wj, rfl⟩ : ∃ wj : World, wj = wr := ⟨_, rfl⟩
 generalize hW5 : wj.alloc (.cells #[.string x.f0, .int .i64 x.f1, .int .i64 x.f2, .bool x.f3, .slice A44 x.f4.length c44] 73) = W5
 have hB5 : Below wj.heap.size wj W5 := by rw [← hW5]; exact qAA (Below.refl _ _) _
 have hK5 : W5.heap[wj.heap.size]? = some (.cells #[.string x.f0, .int .i64 x.f1, .int .i64 x.f2, .bool x.f3, .slice A44 x.f4.length c44] 73 (0, 0)) := by rw [← hW5]; exact heap_alloc_new _ _
 have HW5 := zq hW5
 have HP5 := zq (HP9.out.below hB5)
 have HK5 := zq hK5
 have HKo5 := zq (qAF HK9.out (qAN hB5 none) (by simp))
 have hpi : w.heap.size + 1 + 1 < wj.heap.size := HP9.out.hN.lt
 have hpo : w.heap.size + 1 + 1 < wo.heap.size := hpw
 clear hW5 hB5 hK5 HP9 HK9
 go_wp2_with fail
 rw [HW5.out]
 refine (names_add.walk (w.heap.size + 1 + 1) T' x.f0 W5 HP5.out.hN (by simp only [maxLen]; omega)).mono ?_
 rintro e W6 ⟨rfl, hn, hg⟩
 have HK6 := zq (qAF HK5.out hg (by simp; omega))
 have HKo6 := zq (qAF HKo5.out hg (by simp; omega))
 have HP6 := zq (HP5.out.putB hg hn)
 clear hn hg HK5 HKo5 HP5 HW5 y0 y1 y2 y3 y4
 generalize addR T' x.f0 = e1 at *
 by_cases c1 : e1 = 0
 case neg =>
  have hr : r = e1 := by have := HG7.out; rw [if_pos c1, Option.bind_some] at this; simp only [qBF.k2] at this; rw [if_pos c1] at this; exact (zy this).symm
  subst hr
  have c1b : (r != 0) = true := bne_iff_ne.mpr c1
  clear c1
  go_wp2_with fail
  go_ret
  exact ⟨rfl, HP6.out.hB⟩
 subst c1
 rw [if_pos rfl] at HP6
 have hG6 := HG7.out
 rw [if_neg (by simp)] at hG6
 obtain ⟨q, hq, hK⟩ := Option.bind_eq_some_iff.mp hG6
 obtain ⟨ee, he, hF⟩ := Option.bind_eq_some_iff.mp hq
 have HE := zq he
 have HF := zq (And.intro hF hK)
 clear hG6 hq he hF hK HG7 hal
 have k0 := (qA1 HK6.out 0).trans rfl
 have k1 := (qA1 HK6.out 1).trans rfl
 have k2 := (qA1 HK6.out 2).trans rfl
 have k3 := (qA1 HK6.out 3).trans rfl
 have k4 := (qA1 HK6.out 4).trans rfl
 go_wp2_with fail
 refine (qB0.calls 50 x.f0 x.f1 x.f2 x.f3 A44 c44 x.f4 ee W6 (Kd.qAB HI44.out.2 HP6.out.hB) HI44.out.1 HE.out).mono ?_
 rintro e W7 ⟨rfl, hb⟩
 have HP7 := zq (HP6.out.below hb)
 have HK7 := zq (qAF HKo6.out (qAN hb none) (by simp))
 clear hb HP6 HK6 HKo6 k0 k1 k2 k3 k4
 by_cases c2 : ee = 0
 ·have c2b : (ee != 0) = false := bne_eq_false_iff_eq.mpr c2
  have HG8 := zq (by have := HF.out.1; rw [if_neg (by simpa using c2)] at this; exact Option.bind_eq_some_iff.mpr ⟨q, this, HF.out.2⟩)
  clear c2 HF
  go_wp2_with fail
  go_roundw
  case rel => exact ⟨j + 1, x.f0 :: T', by omega, by first | rfl | (simp; done) | rw [Int.natCast_add]; rfl, HG8, HP7, HK7⟩
  case measure => simp [RowKit.intOf]; omega
 have hr : r = ee := by
  have := HF.out.1
  rw [if_pos (by simpa using c2)] at this
  have h2 := HF.out.2
  rw [← zy this] at h2
  simp only [qBF.k2] at h2
  rw [if_pos c2] at h2
  exact (zy h2).symm
 subst hr
 have c2b : (r != 0) = true := bne_iff_ne.mpr c2
 clear c2
 go_wp2_with fail
 go_ret
 exact ⟨rfl, HP7.out.hB⟩
mutual
def qAU.l0 : Nat → ByteArray → List (S49) → Int → Int → Option (ByteArray × Int × Bool × Int × Int × Int × Int × Bool)
 | 0, _, _, _, _ => none
 | k + 1, x1, x10, x11, x12 => if x12 < x11 then (if 0 ≤ x12 then (if x12 < (x10.length : Int) then (qAU.l1 k x1 x10 x11 x12 ((qA4 x10 x12).f3) (((qA4 x10 x12).f3).length : Int) 0) else (none)) else (none)) else (some ((⟨#[]⟩ : ByteArray), 0, false, 0, 0, 0, 0, false))
def qAU.l1 : Nat → ByteArray → List (S49) → Int → Int → List (S98) → Int → Int → Option (ByteArray × Int × Bool × Int × Int × Int × Int × Bool)
 | 0, _, _, _, _, _, _, _ => none
 | k + 1, x1, x10, x11, x12, x17, x18, x19 => if x19 < x18 then (if 0 ≤ x19 then (if x19 < (x17.length : Int) then (if ((qC4 x17 x19).f0).toList = x1.toList then (some ((qC4 x17 x19).f0, (qC4 x17 x19).f1, (qC4 x17 x19).f2, (qC4 x17 x19).f3, (qC4 x17 x19).f4, (qC4 x17 x19).f5.f0, (qC4 x17 x19).f5.f1, true)) else (qAU.l1 k x1 x10 x11 x12 x17 x18 (wrap64 (x19 + 1)))) else (none)) else (none)) else (qAU.l0 k x1 x10 x11 (wrap64 (x12 + 1)))
end
def qAU.f (k : Nat) (l0 : List (S49)) (a1 : ByteArray) : Option (ByteArray × Int × Bool × Int × Int × Int × Int × Bool) := qAU.l0 k a1 l0 (l0.length : Int) 0
theorem qAU.qBT : ∀ k, (∀ y0 y1 y2 y3, LeO (qAU.l0 k y0 y1 y2 y3) (qAU.l0 (k + 1) y0 y1 y2 y3)) ∧ (∀ y0 y1 y2 y3 y4 y5 y6, LeO (qAU.l1 k y0 y1 y2 y3 y4 y5 y6) (qAU.l1 (k + 1) y0 y1 y2 y3 y4 y5 y6))
 | 0 => ⟨fun _ _ _ _ r h => by simp [qAU.l0] at h, fun _ _ _ _ _ _ _ r h => by simp [qAU.l1] at h⟩
 | k + 1 => by
  obtain ⟨ih0, ih1⟩ := qAU.qBT k
  refine ⟨?_, ?_⟩
  ·intro y0 y1 y2 y3
   unfold qAU.l0
   exact zm
  ·intro y0 y1 y2 y3 y4 y5 y6
   unfold qAU.l1
   exact zm
theorem qAU.mono : ∀ a0 a1 k, LeO (qAU.f k a0 a1) (qAU.f (k + 1) a0 a1) := by
 intro a0 a1 k
 obtain ⟨ih0, ih1⟩ := qAU.qBT k
 unfold qAU.f
 exact zm
theorem qAU.calls (k : Nat) (A0 : Option Addr) (c0 : Nat) (l0 : List (S49)) (a1 : ByteArray) (r1 : ByteArray) (r2 : Int) (r3 : Bool) (r4 : Int) (r5 : Int) (r6 : Int) (r7 : Int) (r8 : Bool) (w : World) (hr0 : Kd.C k49 w A0 l0.length l0) (hc0 : l0.length ≤ c0) (h : qAU.f k l0 a1 = some (r1, r2, r3, r4, r5, r6, r7, r8)) :
  Calls Tryz.prog 46 #[.slice A0 l0.length c0, .string a1] w fun e w' => e = .returned (.tuple #[.agg #[.string r1, .int .i64 r2, .bool r3, .int .i64 r4, .int .i64 r5, .int .i64 r6, .int .i64 r7], .bool r8]) ∧ Below w.heap.size w w' := by
 have hu98 := Tryz.underlying98
 have hu49 := Tryz.underlying49
 have HR0 := zq hr0
 have HC0 := zq hc0
 clear hr0 hc0
 have HB := zq (Below.refl w.heap.size w)
 have H := h
 unfold qAU.f at H
 clear h
 have H' := zq H
 clear H
 go_enter Tryz.func46, Tryz.ntmps46
 go_wp2_with ((refine boxY 4 #[.string (⟨#[]⟩ : ByteArray), .int .i64 0, .bool false, .int .i64 0, .int .i64 0, .int .i64 0, .int .i64 0] 98 ?_; intro gb145 hg w3 BK145 hb; have GW145 := zg w gb145; replace HB := zB hb; clear hb hg))
 go_loopg [12] k (fun kq v12 w' => ∃ (x12_1 : Int) (x146000_1 : ByteArray) (x146001_1 : Int) (x146002_1 : Bool) (x146003_1 : Int) (x146004_1 : Int) (x146005_1 : Int) (x146006_1 : Int), v12 = .int .i64 x12_1 ∧ qA0 (qAU.l0 kq a1 l0 (l0.length : Int) x12_1 = some (r1, r2, r3, r4, r5, r6, r7, r8)) ∧ qA0 (kq ≤ k) ∧ qA0 (w'.heap[gb145]? = some (.cells #[.string x146000_1, .int .i64 x146001_1, .bool x146002_1, .int .i64 x146003_1, .int .i64 x146004_1, .int .i64 x146005_1, .int .i64 x146006_1] 98 (0, 0))) ∧ qA0 (Below w.heap.size w w'))
 case atStart => exact ⟨(0), ((⟨#[]⟩ : ByteArray)), (0), (false), (0), (0), (0), (0), zs, H', ⟨Nat.le_refl _⟩, ⟨zk BK145⟩, ⟨zb⟩⟩
 clear H'
 obtain ⟨x12_1, x146000_1, x146001_1, x146002_1, x146003_1, x146004_1, x146005_1, x146006_1, rfl, HA, HK1, BK145, HB⟩ := hrel
 obtain _ | k1 := gk
 ·exact absurd HA.out (by simp [qAU.l0])
 have H := HA.out
 clear HA
 simp only [qAU.l0] at H
 obtain ⟨-, c4b0, H⟩ | ⟨-, c4b0, H⟩ := y3 H
 rotate_left
 ·simp only [Option.some.injEq, Prod.mk.injEq] at H
  obtain ⟨rfl, rfl, rfl, rfl, rfl, rfl, rfl, rfl⟩ := H
  have hcz24 := bc7 BK145.out
  go_wp2
  refine bodyPost_ret (qF2 rfl _ _ gb145 98 #[.string (⟨#[]⟩ : ByteArray), .int .i64 0, .bool false, .int .i64 0, .int .i64 0, .int .i64 0, .int .i64 0] (0, 0) _ rfl (zp7 BK145) Tryz.underlying98 rfl (by kernel_rfl)) rfl ?_
  exact ⟨zf, zb⟩
 obtain ⟨-, c5b0, H⟩ := y1 H
 obtain ⟨-, c6b0, H⟩ := y1 H
 have H' := zq H
 clear H
 obtain ⟨p146, q146, ad146, A146_3, c146_3, A146_4, c146_4, A146_5, c146_5, e146, hx146_0, hx146_1, hx146_2, hx146_3, hx146_4, hx146_5, hl146_3, hi146_3, hl146_4, hi146_4, hl146_5, hi146_5⟩ := yp (qEY HR0.out x12_1)
 cases e146
 (try replace hx146_0 := zh hx146_0)
 replace hx146_1 := zh hx146_1
 replace hx146_2 := zh hx146_2
 replace hx146_3 := zh hx146_3
 replace hx146_4 := zh hx146_4
 replace hx146_5 := zh hx146_5
 have HR146_3 := zq hi146_3
 have HC146_3 := zq hl146_3
 clear hi146_3 hl146_3
 have HR146_4 := zq hi146_4
 have HC146_4 := zq hl146_4
 clear hi146_4 hl146_4
 have HR146_5 := zq hi146_5
 have HC146_5 := zq hl146_5
 clear hi146_5 hl146_5
 go_wp2_with ((refine boxY 7 #[.string (⟨#[]⟩ : ByteArray), .int .i64 0, .int .i64 0, .slice none 0 0, .slice none 0 0, .slice none 0 0] 49 ?_; intro gb147 hg w7 BK147 hb; have GW147 := zg w gb147; have NB145_147 := zl BK145 gb147; have NB147_145 := zu BK145 gb147; replace BK145 := zK BK145 hb; replace HB := zB hb; clear hb hg; have hnb8 := NB147_145.out; have hnc8 := NB145_147.out; have hcz9 := bc6 BK147.out))
 go_loopg [19] k1 (fun kq v19 w' => ∃ (x19_2 : Int) (x146000_2 : ByteArray) (x146001_2 : Int) (x146002_2 : Bool) (x146003_2 : Int) (x146004_2 : Int) (x146005_2 : Int) (x146006_2 : Int), v19 = .int .i64 x19_2 ∧ qA0 (qAU.l1 kq a1 l0 (l0.length : Int) x12_1 ((qA4 l0 x12_1).f3) (((qA4 l0 x12_1).f3).length : Int) x19_2 = some (r1, r2, r3, r4, r5, r6, r7, r8)) ∧ qA0 (kq ≤ k1) ∧ qA0 (w'.heap[gb145]? = some (.cells #[.string x146000_2, .int .i64 x146001_2, .bool x146002_2, .int .i64 x146003_2, .int .i64 x146004_2, .int .i64 x146005_2, .int .i64 x146006_2] 98 (0, 0))) ∧ qA0 (w'.heap[gb147]? = some (.cells #[.string ((qA4 l0 x12_1).f0), .int .i64 ((qA4 l0 x12_1).f1), .int .i64 ((qA4 l0 x12_1).f2), (.slice A146_3 ((qA4 l0 x12_1).f3).length c146_3), (.slice A146_4 ((qA4 l0 x12_1).f4).length c146_4), (.slice A146_5 ((qA4 l0 x12_1).f5).length c146_5)] 49 (0, 0))) ∧ qA0 (Below w.heap.size w w'))
 case atStart => exact ⟨(0), (x146000_1), (x146001_1), (x146002_1), (x146003_1), (x146004_1), (x146005_1), (x146006_1), zs, H', ⟨Nat.le_refl _⟩, ⟨by refine zf6 ?_ NB145_147; (with_reducible repeat refine st ?_); exact BK145.out⟩, ⟨zp6 BK147⟩, ⟨zb⟩⟩
 clear H' c4b0 c5b0 c6b0 hcz9 hx146_0 hx146_1 hx146_2 hx146_3 hx146_4 hx146_5 p146 q146
 obtain ⟨x19_2, x146000_2, x146001_2, x146002_2, x146003_2, x146004_2, x146005_2, x146006_2, rfl, HA, HK2, BK145, BK147, HB⟩ := hrel
 obtain _ | k2 := gk
 ·exact absurd HA.out (by simp [qAU.l1])
 have H := HA.out
 clear HA
 simp only [qAU.l1] at H
 obtain ⟨-, c10b0, H⟩ | ⟨-, c10b0, H⟩ := y3 H
 rotate_left
 ·have H' := zq H
  clear H
  go_wp2
  go_roundg k2
  case measure => have := HK1.out; have := HK2.out; omega
  case rel => exact ⟨(wrap64 (x12_1 + 1)), (x146000_2), (x146001_2), (x146002_2), (x146003_2), (x146004_2), (x146005_2), (x146006_2), zs, H', ⟨by have := HK1.out; have := HK2.out; omega⟩, ⟨zk BK145⟩, ⟨zb⟩⟩
 obtain ⟨-, c11b0, H⟩ := y1 H
 obtain ⟨-, c12b0, H⟩ := y1 H
 obtain ⟨-, c13b0, c13b1, H⟩ | ⟨c13, c13b0, c13b1, H⟩ := y4 H
 rotate_left
 ·have H' := zq H
  clear H
  obtain ⟨p148, q148, ad148, e148, hx148_0, hx148_1, hx148_2, hx148_3, hx148_4, hx148_5, hx148_6⟩ := yp (at_T98 HR146_3.out x19_2)
  cases e148
  (try replace hx148_0 := zh hx148_0)
  replace hx148_1 := zh hx148_1
  replace hx148_2 := zh hx148_2
  replace hx148_3 := zh hx148_3
  replace hx148_4 := zh hx148_4
  replace hx148_5 := zh hx148_5
  replace hx148_6 := zh hx148_6
  go_wp2_with ((refine boxY 9 #[.string (⟨#[]⟩ : ByteArray), .int .i64 0, .bool false, .int .i64 0, .int .i64 0, .int .i64 0, .int .i64 0] 98 ?_; intro gb149 hg w20 BK149 hb; have GW149 := zg w gb149; have NB145_149 := zl BK145 gb149; have NB149_145 := zu BK145 gb149; have NB147_149 := zl BK147 gb149; have NB149_147 := zu BK147 gb149; replace BK145 := zK BK145 hb; replace BK147 := zK BK147 hb; replace HB := zB hb; clear hb hg; have hnb21 := NB149_145.out; have hnc21 := NB145_149.out; have hnb22 := NB149_147.out; have hnc22 := NB147_149.out; have hcz23 := bc7 BK149.out))
  go_roundg k2
  case measure => have := HK1.out; have := HK2.out; omega
  case rel => exact ⟨(wrap64 (x19_2 + 1)), (x146000_2), (x146001_2), (x146002_2), (x146003_2), (x146004_2), (x146005_2), (x146006_2), zs, H', ⟨by have := HK1.out; have := HK2.out; omega⟩, ⟨by refine zf7 ?_ NB145_149; (with_reducible repeat refine st ?_); exact BK145.out⟩, ⟨by refine zf7 ?_ NB147_149; (with_reducible repeat refine st ?_); exact BK147.out⟩, ⟨zb⟩⟩
 simp only [Option.some.injEq, Prod.mk.injEq] at H
 obtain ⟨rfl, rfl, rfl, rfl, rfl, rfl, rfl, rfl⟩ := H
 obtain ⟨p148, q148, ad148, e148, hx148_0, hx148_1, hx148_2, hx148_3, hx148_4, hx148_5, hx148_6⟩ := yp (at_T98 HR146_3.out x19_2)
 cases e148
 (try replace hx148_0 := zh hx148_0)
 replace hx148_1 := zh hx148_1
 replace hx148_2 := zh hx148_2
 replace hx148_3 := zh hx148_3
 replace hx148_4 := zh hx148_4
 replace hx148_5 := zh hx148_5
 replace hx148_6 := zh hx148_6
 go_wp2_with ((refine boxY 9 #[.string (⟨#[]⟩ : ByteArray), .int .i64 0, .bool false, .int .i64 0, .int .i64 0, .int .i64 0, .int .i64 0] 98 ?_; intro gb149 hg w14 BK149 hb; have GW149 := zg w gb149; have NB145_149 := zl BK145 gb149; have NB149_145 := zu BK145 gb149; have NB147_149 := zl BK147 gb149; have NB149_147 := zu BK147 gb149; replace BK145 := zK BK145 hb; replace BK147 := zK BK147 hb; replace HB := zB hb; clear hb hg; have hnb15 := NB149_145.out; have hnc15 := NB145_149.out; have hnb16 := NB149_147.out; have hnc16 := NB147_149.out; have hcz17 := bc7 BK149.out; have hnb18 := NB145_147.out; have hnc18 := NB147_145.out; have hcz19 := bc7 BK145.out))
 refine bodyPost_ret (qF2 rfl _ _ gb145 98 #[.string ((qC4 ((qA4 l0 x12_1).f3) x19_2).f0), .int .i64 ((qC4 ((qA4 l0 x12_1).f3) x19_2).f1), .bool ((qC4 ((qA4 l0 x12_1).f3) x19_2).f2), .int .i64 ((qC4 ((qA4 l0 x12_1).f3) x19_2).f3), .int .i64 ((qC4 ((qA4 l0 x12_1).f3) x19_2).f4), .int .i64 ((qC4 ((qA4 l0 x12_1).f3) x19_2).f5.f0), .int .i64 ((qC4 ((qA4 l0 x12_1).f3) x19_2).f5.f1)] (0, 0) _ rfl (by refine zp_ (cs := #[.string ((qC4 ((qA4 l0 x12_1).f3) x19_2).f0), .int .i64 ((qC4 ((qA4 l0 x12_1).f3) x19_2).f1), .bool ((qC4 ((qA4 l0 x12_1).f3) x19_2).f2), .int .i64 ((qC4 ((qA4 l0 x12_1).f3) x19_2).f3), .int .i64 ((qC4 ((qA4 l0 x12_1).f3) x19_2).f4), .int .i64 ((qC4 ((qA4 l0 x12_1).f3) x19_2).f5.f0), .int .i64 x146006_2]) ?_ 6; refine zp_ (cs := #[.string ((qC4 ((qA4 l0 x12_1).f3) x19_2).f0), .int .i64 ((qC4 ((qA4 l0 x12_1).f3) x19_2).f1), .bool ((qC4 ((qA4 l0 x12_1).f3) x19_2).f2), .int .i64 ((qC4 ((qA4 l0 x12_1).f3) x19_2).f3), .int .i64 ((qC4 ((qA4 l0 x12_1).f3) x19_2).f4), .int .i64 x146005_2, .int .i64 x146006_2]) ?_ 5; refine zp_ (cs := #[.string ((qC4 ((qA4 l0 x12_1).f3) x19_2).f0), .int .i64 ((qC4 ((qA4 l0 x12_1).f3) x19_2).f1), .bool ((qC4 ((qA4 l0 x12_1).f3) x19_2).f2), .int .i64 ((qC4 ((qA4 l0 x12_1).f3) x19_2).f3), .int .i64 x146004_2, .int .i64 x146005_2, .int .i64 x146006_2]) ?_ 4; refine zp_ (cs := #[.string ((qC4 ((qA4 l0 x12_1).f3) x19_2).f0), .int .i64 ((qC4 ((qA4 l0 x12_1).f3) x19_2).f1), .bool ((qC4 ((qA4 l0 x12_1).f3) x19_2).f2), .int .i64 x146003_2, .int .i64 x146004_2, .int .i64 x146005_2, .int .i64 x146006_2]) ?_ 3; refine zp_ (cs := #[.string ((qC4 ((qA4 l0 x12_1).f3) x19_2).f0), .int .i64 ((qC4 ((qA4 l0 x12_1).f3) x19_2).f1), .bool x146002_2, .int .i64 x146003_2, .int .i64 x146004_2, .int .i64 x146005_2, .int .i64 x146006_2]) ?_ 2; refine zp_ (cs := #[.string ((qC4 ((qA4 l0 x12_1).f3) x19_2).f0), .int .i64 x146001_2, .bool x146002_2, .int .i64 x146003_2, .int .i64 x146004_2, .int .i64 x146005_2, .int .i64 x146006_2]) ?_ 1; refine zp_ (cs := #[.string x146000_2, .int .i64 x146001_2, .bool x146002_2, .int .i64 x146003_2, .int .i64 x146004_2, .int .i64 x146005_2, .int .i64 x146006_2]) ?_ 0; refine zf7 ?_ NB145_149; (with_reducible repeat refine st ?_); exact BK145.out) Tryz.underlying98 rfl (by kernel_rfl)) rfl ?_
 exact ⟨zf, zb⟩
end
end Go.Proofs.YtfnejdbjekkadaaGreat.PRatePuts
end
