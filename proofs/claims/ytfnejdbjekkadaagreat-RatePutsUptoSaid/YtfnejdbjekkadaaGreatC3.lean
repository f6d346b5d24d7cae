/- A part of the proof of RatePuts: texts that were printed, words, walks. No condition. -/
import Derived.Test.YtfnejdbjekkadaaGreatC1
set_option linter.unusedVariables false
set_option linter.unusedSimpArgs false
section
namespace Go.Proofs.YtfnejdbjekkadaaGreat.PRatePuts
noncomputable section
open Go.RowKit Go.Proofs.YtfnejdbjekkadaaGreatW.PrintWords Go.Proofs.YtfnejdbjekkadaaGreatW.PrintLast Go.Proofs.YtfnejdbjekkadaaGreatW.PrintMore
set_option maxHeartbeats 8000000
set_option maxRecDepth 100000
mutual
def qBE.j0 : Nat → Int → Int → Bool → Option (Int)
 | 0, _, _, _ => none
 | k + 1, x0, x3, x4 => if x4 = true then (some 0) else (if x3 = 4 then (qBE.j1 k x0 x3 (x3 == 4)) else (if x3 = 16 then (qBE.j1 k x0 x3 (x3 == 16)) else (qBE.j1 k x0 x3 (x3 == 17))))
def qBE.j1 : Nat → Int → Int → Bool → Option (Int)
 | 0, _, _, _ => none
 | k + 1, x0, x3, x9 => if x9 = true then (some 1) else (if x3 = 15 then (some 3) else (if x0 > 4 then (if x0 < 19 then (some 2) else (some (-1))) else (some (-1))))
end
def qBE.f (k : Nat) (a0 : Int) : Option (Int) := if a0 = 0 then (qBE.j0 k a0 a0 (a0 == 0)) else (if a0 = 1 then (qBE.j0 k a0 a0 (a0 == 1)) else (if a0 = 2 then (qBE.j0 k a0 a0 (a0 == 2)) else (qBE.j0 k a0 a0 (a0 == 3))))
theorem qBE.qBT : ∀ k, (∀ y0 y1 y2, LeO (qBE.j0 k y0 y1 y2) (qBE.j0 (k + 1) y0 y1 y2)) ∧ (∀ y0 y1 y2, LeO (qBE.j1 k y0 y1 y2) (qBE.j1 (k + 1) y0 y1 y2))
 | 0 => ⟨fun _ _ _ r h => by simp [qBE.j0] at h, fun _ _ _ r h => by simp [qBE.j1] at h⟩
 | k + 1 => by
  obtain ⟨ih0, ih1⟩ := qBE.qBT k
  refine ⟨?_, ?_⟩
  ·intro y0 y1 y2
   unfold qBE.j0
   exact zm
  ·intro y0 y1 y2
   unfold qBE.j1
   exact zm
theorem qBE.mono : ∀ a0 k, LeO (qBE.f k a0) (qBE.f (k + 1) a0) := by
 intro a0 k
 obtain ⟨ih0, ih1⟩ := qBE.qBT k
 unfold qBE.f
 exact zm
theorem qBE.calls (k : Nat) (a0 : Int) (r : Int) (w : World) (h : qBE.f k a0 = some r) :
  Calls Tryz.prog 100 #[.int .i64 a0] w fun e w' => e = .returned (.int .i64 r) ∧ qB8 w w' := by
 have H := h
 unfold qBE.f at H
 clear h
 have HC2 := zq H
 clear H
 go_enter Tryz.func100, Tryz.ntmps100
 go_upto_if 4 with (fail)
 go_cut [4] (fun v4 wc => ∃ (kq : Nat) (x4_1 : Bool), v4 = .bool x4_1 ∧ qA0 (qBE.j0 kq a0 a0 x4_1 = some r) ∧ qA0 (kq ≤ k) ∧ qB8 w wc)
 case first =>
  have H := HC2.out
  clear HC2
  obtain ⟨-, c3b0, c3b1, H⟩ | ⟨c3, c3b0, c3b1, H⟩ := y4 H
  ·(first | rw [c3b0] | (simp only [qCI, qCO]; rw [c3b0]) | skip)
   have H' := zq H
   clear H
   go_wp2
   go_meet
   case rel => exact ⟨_, ((a0 == 0)), zs, H', ⟨by first | omega | exact Nat.le_refl _⟩, by repeat (first | exact qB8.refl _ | apply qB8.step)⟩
  (first | rw [c3b0] | (simp only [qCI, qCO]; rw [c3b0]) | skip)
  obtain ⟨-, c4b0, c4b1, H⟩ | ⟨c4, c4b0, c4b1, H⟩ := y4 H
  ·have H' := zq H
   clear H
   go_wp2
   go_meet
   case rel => exact ⟨_, ((a0 == 1)), zs, H', ⟨by first | omega | exact Nat.le_refl _⟩, by repeat (first | exact qB8.refl _ | apply qB8.step)⟩
  obtain ⟨-, c5b0, c5b1, H⟩ | ⟨c5, c5b0, c5b1, H⟩ := y4 H
  rotate_left
  ·have H' := zq H
   clear H
   go_wp2
   go_meet
   case rel => exact ⟨_, ((a0 == 3)), zs, H', ⟨by first | omega | exact Nat.le_refl _⟩, by repeat (first | exact qB8.refl _ | apply qB8.step)⟩
  have H' := zq H
  clear H
  go_wp2
  go_meet
  case rel => exact ⟨_, ((a0 == 2)), zs, H', ⟨by first | omega | exact Nat.le_refl _⟩, by repeat (first | exact qB8.refl _ | apply qB8.step)⟩
 clear HC2
 obtain ⟨kq, x4_1, rfl, HA, HJ1, ⟨mc1, rfl⟩⟩ := hcut
 obtain _ | kj1 := kq
 ·exact absurd HA.out (by simp [qBE.j0])
 have H := HA.out
 clear HA
 simp only [qBE.j0] at H
 by_cases c6 : x4_1 = true
 ·subst c6
  rw [if_pos rfl] at H
  obtain rfl := zy H
  go_wp2
  go_ret
  exact ⟨zs, zD⟩
 replace c6 := Bool.eq_false_iff.mpr c6
 subst c6
 rw [zj] at H
 have HC7 := zq H
 clear H
 go_upto_if 9 with (fail)
 go_cut [9] (fun v9 wc => ∃ (kq : Nat) (x9_6 : Bool), v9 = .bool x9_6 ∧ qA0 (qBE.j1 kq a0 a0 x9_6 = some r) ∧ qA0 (kq ≤ kj1) ∧ qB8 w wc)
 case first =>
  have H := HC7.out
  clear HC7
  obtain ⟨-, c8b0, c8b1, H⟩ | ⟨c8, c8b0, c8b1, H⟩ := y4 H
  ·(first | rw [c8b0] | (simp only [qCI, qCO]; rw [c8b0]) | skip)
   have H' := zq H
   clear H
   go_wp2
   go_meet
   case rel => exact ⟨_, ((a0 == 4)), zs, H', ⟨by have := HJ1.out; first | omega | exact Nat.le_refl _⟩, by repeat (first | exact qB8.refl _ | apply qB8.step)⟩
  (first | rw [c8b0] | (simp only [qCI, qCO]; rw [c8b0]) | skip)
  obtain ⟨-, c9b0, c9b1, H⟩ | ⟨c9, c9b0, c9b1, H⟩ := y4 H
  rotate_left
  ·have H' := zq H
   clear H
   go_wp2
   go_meet
   case rel => exact ⟨_, ((a0 == 17)), zs, H', ⟨by have := HJ1.out; first | omega | exact Nat.le_refl _⟩, by repeat (first | exact qB8.refl _ | apply qB8.step)⟩
  have H' := zq H
  clear H
  go_wp2
  go_meet
  case rel => exact ⟨_, ((a0 == 16)), zs, H', ⟨by have := HJ1.out; first | omega | exact Nat.le_refl _⟩, by repeat (first | exact qB8.refl _ | apply qB8.step)⟩
 clear HC7
 obtain ⟨kq, x9_6, rfl, HA, HJ6, ⟨mc6, rfl⟩⟩ := hcut
 obtain _ | kj6 := kq
 ·exact absurd HA.out (by simp [qBE.j1])
 have H := HA.out
 clear HA
 simp only [qBE.j1] at H
 by_cases c10 : x9_6 = true
 ·subst c10
  rw [if_pos rfl] at H
  obtain rfl := zy H
  go_wp2
  go_ret
  exact ⟨zs, zD⟩
 replace c10 := Bool.eq_false_iff.mpr c10
 subst c10
 rw [zj] at H
 obtain ⟨-, c11b0, c11b1, H⟩ | ⟨c11, c11b0, c11b1, H⟩ := y4 H
 ·obtain rfl := zy H
  go_wp2
  go_ret
  exact ⟨zs, zD⟩
 obtain ⟨-, c12b0, H⟩ | ⟨-, c12b0, H⟩ := y3 H
 rotate_left
 ·obtain rfl := zy H
  go_wp2
  go_ret
  exact ⟨zs, zD⟩
 obtain ⟨-, c13b0, H⟩ | ⟨-, c13b0, H⟩ := y3 H
 rotate_left
 ·obtain rfl := zy H
  go_wp2
  go_ret
  exact ⟨zs, zD⟩
 obtain rfl := zy H
 go_wp2
 go_ret
 exact ⟨zs, zD⟩
theorem containsOut.idx (A : Option Addr) (c : Nat) (l : List Int) (gi : Addr) (J T : Nat → World → Prop) (hJ : ∀ k W, J k W → Kd.C (Kd.int .i64) W A l.length l) (hl : l.length ≤ c)
  (hcall : ∀ k W, k < l.length → J k W → Calls Tryz.prog 102 #[.int .i64 (l.getD k (0 : Int)), .pointer (some gi)] W fun e W' => (e = .returned (.bool true) ∧ T k W') ∨ (e = .returned (.bool false) ∧ J (k + 1) W')) (w : World) (h0 : J 0 w) :
  Calls Tryz.prog 115 #[.slice A l.length c, .func (.func 102) #[] #[.pointer (some gi)]] w fun e W' => (∃ k : Nat, k < l.length ∧ e = .returned (.int .i64 (k : Int)) ∧ T k W') ∨ (e = .returned (.int .i64 (-1)) ∧ J l.length W') := by
 have hm := Kd.qE9 (hJ 0 w h0)
 have H0 := zq h0
 clear h0
 go_enter Tryz.func115, Tryz.ntmps115
 go_wp2
 go_loopw [5, 8] (fun _ i wr => ∃ k : Nat, k ≤ l.length ∧ i = .int .i64 k ∧ qA0 (J k wr)) (fun _ i _ => l.length - (intOf i).toNat)
 case atStart => exact ⟨0, Nat.zero_le _, rfl, H0⟩
 obtain ⟨k, hk, rfl, HJ⟩ := hrel
 by_cases hlt : k < l.length
 rotate_left
 ·obtain rfl : k = l.length := by omega
  go_wp2_with fail
  go_ret
  exact .inr ⟨rfl, HJ.out⟩
 have hC := hJ k wr HJ.out
 have HC := zq (hcall k wr hlt HJ.out)
 obtain ⟨ad, cs_, rfl, hcl_, hk_, hcell_⟩ := Kd.C_get hC (0 : Int) (k : Int) (by omega) (by omega)
 have h1_ : cs_ = [.int .i64 (l.getD k (0 : Int))] := hk_
 have hx0 := hcell_ 0 (.int .i64 (l.getD k (0 : Int))) (by rw [h1_]; rfl)
 rw [show (k : Int).toNat * ((Kd.int .i64)).sz + 0 = k from by simp [show ((Kd.int .i64)).sz = 1 from rfl]] at hx0
 clear hcell_ hk_ h1_ hcl_ hC hcall
 generalize l.getD k (0 : Int) = y at *
 go_wp2_with fail
 refine HC.out.mono ?_
 rintro e w' (⟨rfl, ht⟩ | ⟨rfl, hj⟩)
 ·have HT := zq ht
  clear ht
  go_wp2_with fail
  go_ret
  exact .inl ⟨k, hlt, rfl, HT.out⟩
 ·have HJ2 := zq hj
  clear hj
  go_wp2_with fail
  go_roundw
  case rel => exact ⟨k + 1, by omega, by go_num, HJ2⟩
  case measure => simp [intOf]; omega
theorem containsOut.contains (A : Option Addr) (c : Nat) (l : List Int) (gi : Addr) (J T : Nat → World → Prop) (hJ : ∀ k W, J k W → Kd.C (Kd.int .i64) W A l.length l) (hl : l.length ≤ c)
  (hcall : ∀ k W, k < l.length → J k W → Calls Tryz.prog 102 #[.int .i64 (l.getD k (0 : Int)), .pointer (some gi)] W fun e W' => (e = .returned (.bool true) ∧ T k W') ∨ (e = .returned (.bool false) ∧ J (k + 1) W')) (w : World) (h0 : J 0 w) :
  Calls Tryz.prog 101 #[.slice A l.length c, .func (.func 102) #[] #[.pointer (some gi)]] w fun e W' => (e = .returned (.bool true) ∧ ∃ k : Nat, k < l.length ∧ T k W') ∨ (e = .returned (.bool false) ∧ J l.length W') := by
 have HI := zq (containsOut.idx A c l gi J T hJ hl hcall w h0)
 clear hcall hJ h0
 go_enter Tryz.func101, Tryz.ntmps101
 go_wp2_with fail
 refine HI.out.mono ?_
 rintro e w' (⟨k, hk, rfl, ht⟩ | ⟨rfl, hj⟩)
 ·have HT := zq ht
  clear ht
  go_wp2_with fail
  go_ret
  exact .inl ⟨by simp, k, hk, HT.out⟩
 ·have HJ := zq hj
  clear hj
  go_wp2_with fail
  go_ret
  exact .inr ⟨by simp, HJ.out⟩
def qF1.f (a0 : Int) : Option (Bool) := if a0 = 1 then (some true) else (if a0 = 2 then (some true) else (if a0 = 3 then (some true) else (some (a0 == 16))))
theorem qF1.calls (a0 : Int) (r : Bool) (w : World) (h : qF1.f a0 = some r) :
  Calls Tryz.prog 103 #[.int .i64 a0] w fun e w' => e = .returned (.bool r) ∧ qB8 w w' := by
 have H := h
 unfold qF1.f at H
 clear h
 obtain ⟨-, c2b0, c2b1, H⟩ | ⟨c2, c2b0, c2b1, H⟩ := y4 H
 ·obtain rfl := zy H
  go_enter Tryz.func103, Tryz.ntmps103
  go_wp2
  go_ret
  exact ⟨zs, zD⟩
 obtain ⟨-, c3b0, c3b1, H⟩ | ⟨c3, c3b0, c3b1, H⟩ := y4 H
 ·obtain rfl := zy H
  go_enter Tryz.func103, Tryz.ntmps103
  go_wp2
  go_ret
  exact ⟨zs, zD⟩
 obtain ⟨-, c4b0, c4b1, H⟩ | ⟨c4, c4b0, c4b1, H⟩ := y4 H
 rotate_left
 ·obtain rfl := zy H
  go_enter Tryz.func103, Tryz.ntmps103
  go_wp2
  go_ret
  exact ⟨zs, zD⟩
 obtain rfl := zy H
 go_enter Tryz.func103, Tryz.ntmps103
 go_wp2
 go_ret
 exact ⟨zs, zD⟩
def qFR (op : Int) : Int := if op = 0 ∨ op = 1 ∨ op = 2 ∨ op = 3 then 0 else if op = 4 ∨ op = 16 ∨ op = 17 then 1 else if op = 15 then 3 else if 4 < op ∧ op < 19 then 2 else -1
def namedB (op : Int) : Bool := decide (op = 1 ∨ op = 2 ∨ op = 3 ∨ op = 16)
theorem kids_f (op : Int) : qBE.f 2 op = some (qFR op) := by
 unfold qBE.f qFR
 by_cases h0 : op = 0
 ·subst h0; rfl
 by_cases h1 : op = 1
 ·subst h1; rfl
 by_cases h2 : op = 2
 ·subst h2; rfl
 by_cases h3 : op = 3
 ·subst h3; rfl
 by_cases h4 : op = 4
 ·subst h4; rfl
 by_cases h5 : op = 16
 ·subst h5; rfl
 by_cases h6 : op = 17
 ·subst h6; rfl
 by_cases h7 : op = 15
 ·subst h7; rfl
 by_cases h8 : 4 < op <;> by_cases h9 : op < 19 <;> simp [h0, h1, h2, h3, h4, h5, h6, h7, h8, h9, qBE.j0, qBE.j1]
theorem kids_calls (op : Int) (w : World) : Calls Tryz.prog 100 #[.int .i64 op] w fun e w' => e = .returned (.int .i64 (qFR op)) ∧ qB8 w w' := qBE.calls 2 op _ w (kids_f op)
theorem named_f (op : Int) : qF1.f op = some (namedB op) := by
 unfold qF1.f namedB
 by_cases h1 : op = 1 <;> by_cases h2 : op = 2 <;> by_cases h3 : op = 3 <;> by_cases h4 : op = 16 <;> simp [h1, h2, h3, h4]
theorem qDC (op : Int) (w : World) : Calls Tryz.prog 103 #[.int .i64 op] w fun e w' => e = .returned (.bool (namedB op)) ∧ qB8 w w' := qF1.calls op _ w (named_f op)
theorem out_calls (x i : Int) (gi : Addr) (w : World) (hc : w.cell? gi = some (.int .i64 i)) : Calls Tryz.prog 102 #[.int .i64 x, .pointer (some gi)] w fun e w' => e = .returned (.bool (decide (x < 0) || decide (i ≤ x))) ∧ w' = w := by
 by_cases c1 : x < 0
 rotate_left
 ·have c1b : decide (x < 0) = false := decide_eq_false c1
  clear c1
  go_enter Tryz.func102, Tryz.ntmps102
  go_wp2
  go_ret
  exact ⟨by simp [c1b], rfl⟩
 have c1b : decide (x < 0) = true := decide_eq_true c1
 clear c1
 go_enter Tryz.func102, Tryz.ntmps102
 go_wp2
 go_ret
 exact ⟨by simp [c1b], rfl⟩
def outB (l : List Int) (i : Int) : Bool := l.any fun x => decide (x < 0) || decide (i ≤ x)
theorem out_all (A : Option Addr) (c : Nat) (l : List Int) (i : Int) (gi : Addr) (w : World) (hC : Kd.C (Kd.int .i64) w A l.length l) (hl : l.length ≤ c) (hc : w.cell? gi = some (.int .i64 i)) :
  Calls Tryz.prog 101 #[.slice A l.length c, .func (.func 102) #[] #[.pointer (some gi)]] w fun e w' => e = .returned (.bool (outB l i)) ∧ w' = w := by
 refine (containsOut.contains A c l gi (fun k W => W = w ∧ ∀ j, j < k → (decide (l.getD j 0 < 0) || decide (i ≤ l.getD j 0)) = false) (fun k W => W = w ∧ (decide (l.getD k 0 < 0) || decide (i ≤ l.getD k 0)) = true) (fun k W hW => by rw [hW.1]; exact hC) hl ?_ w ⟨rfl, fun j hj => absurd hj (by omega)⟩).mono ?_
 ·rintro k W hk ⟨rfl, hJ⟩
  refine (out_calls _ i gi W hc).mono ?_
  rintro e w' ⟨rfl, rfl⟩
  cases hb : (decide (l.getD k 0 < 0) || decide (i ≤ l.getD k 0))
  ·refine .inr ⟨rfl, rfl, fun j hj => ?_⟩
   rcases Nat.lt_or_ge j k with h | h
   ·exact hJ j h
   ·obtain rfl : j = k := by omega
    exact hb
  ·exact .inl ⟨rfl, rfl, rfl⟩
 ·rintro e w' (⟨rfl, k, hk, rfl, hb⟩ | ⟨rfl, rfl, hJ⟩)
  ·refine ⟨?_, rfl⟩
   have : outB l i = true := List.any_eq_true.2 ⟨l.getD k 0, by rw [List.getD_eq_getElem?_getD, List.getElem?_eq_getElem hk]; exact List.getElem_mem _, hb⟩
   rw [this]
  ·refine ⟨?_, rfl⟩
   have : outB l i = false := by
    apply Bool.eq_false_iff.2
    intro h
    obtain ⟨x, hx, hb⟩ := List.any_eq_true.1 h
    obtain ⟨j, hj, rfl⟩ := List.getElem_of_mem hx
    have := hJ j hj
    rw [List.getD_eq_getElem?_getD, List.getElem?_eq_getElem hj] at this
    simp only [Option.getD_some] at this
    rw [this] at hb
    cases hb
   rw [this]
def qFB.f (op : Int) (kids : List Int) (kind n : Int) (name : ByteArray) (i : Int) : Option Int :=
 if qFR op < 0 then some 1 else if (kids.length : Int) ≠ qFR op then some 3 else if outB kids i = true then some 3
 else if (op ≠ 0 ∧ op ≠ 17) ∧ (kind ≠ 0 ∨ n ≠ 0) then some 3 else if namedB op = false ∧ name.toList ≠ [] then some 3
 else if op = 0 then (if kind = 0 then some 8 else qCM.f kind n)
 else if op = 17 then (if kind < 0 ∨ 5 ≤ kind ∨ n < 1 ∨ 1099511627776 < n then some 1 else some 0)
 else if namedB op = true then (qB4.f 200 name).bind fun b => if b = true then some 0 else some 15
 else some 0
structure NodeAt (W : World) (b gi : Nat) (op : Int) (A : Option Addr) (c : Nat) (kids : List Int) (kind n : Int) (name : ByteArray) (i : Int) : Prop where
 h0 : W.cell? ⟨b, 0, none⟩ = some (.int .i64 op)
 h1 : W.cell? ⟨b, 1, none⟩ = some (.slice A kids.length c)
 h2 : W.cell? ⟨b, 2, none⟩ = some (.int .i64 kind)
 h3 : W.cell? ⟨b, 3, none⟩ = some (.int .i64 n)
 h4 : W.cell? ⟨b, 4, none⟩ = some (.string name)
 h5 : W.cell? ⟨gi, 0, none⟩ = some (.int .i64 i)
 hC : Kd.C (Kd.int .i64) W A kids.length kids
theorem NodeAt.below {W W' : World} {b gi : Nat} {op : Int} {A : Option Addr} {c : Nat} {kids : List Int} {kind n : Int} {name : ByteArray} {i : Int} (h : NodeAt W b gi op A c kids kind n name i) (hB : Below W.heap.size W W') : NodeAt W' b gi op A c kids kind n name i :=
 ⟨qA2 hB h.h0, qA2 hB h.h1, qA2 hB h.h2, qA2 hB h.h3, qA2 hB h.h4, qA2 hB h.h5, Kd.qAB h.hC hB⟩
theorem qFB.calls (a0_0 : Int) (A0_1 : Option Addr) (c0_1 : Nat) (l0_1 : List Int) (a0_2 : Int) (a0_3 : Int) (a0_4 : ByteArray) (a1 : Int) (r : Int) (w : World) (hr0_1 : Kd.C (Kd.int .i64) w A0_1 l0_1.length l0_1) (hc0_1 : l0_1.length ≤ c0_1) (h : qFB.f a0_0 l0_1 a0_2 a0_3 a0_4 a1 = some r) :
  Calls Tryz.prog 89 #[.agg #[.int .i64 a0_0, .slice A0_1 l0_1.length c0_1, .int .i64 a0_2, .int .i64 a0_3, .string a0_4], .int .i64 a1] w fun e w' => e = .returned (.int .i64 r) ∧ Below w.heap.size w w' := by
 unfold qFB.f at h
 have H := zq h
 have HL := zq hc0_1
 generalize hW0 : (w.alloc (.cells #[.int .i64 a0_0, .slice A0_1 l0_1.length c0_1, .int .i64 a0_2, .int .i64 a0_3, .string a0_4] 79)).alloc (.cells #[.int .i64 a1] 3) = W0
 have hB0 : Below w.heap.size w W0 := by rw [← hW0]; exact qAA (qAA (Below.refl _ _) _) _
 have hN0 : NodeAt W0 w.heap.size (w.heap.size + 1) a0_0 A0_1 c0_1 l0_1 a0_2 a0_3 a0_4 a1 := by
  refine ⟨?_, ?_, ?_, ?_, ?_, ?_, Kd.qAB hr0_1 hB0⟩ <;> rw [← hW0] <;> simp
 have HW0 := zq hW0
 have HB := zq hB0
 have HN := zq hN0
 clear h hr0_1 hc0_1 hB0 hN0 hW0
 go_enter Tryz.func89, Tryz.ntmps89
 go_wp2_with fail
 rw [HW0.out]
 refine (kids_calls a0_0 _).mono ?_
 rintro e w1 ⟨rfl, ⟨n1, rfl⟩⟩
 by_cases c1 : qFR a0_0 < 0
 ·have hr : r = 1 := by have := H.out; rw [if_pos c1] at this; exact (zy this).symm
  subst hr
  have c1b : decide (qFR a0_0 < 0) = true := decide_eq_true c1
  clear c1
  go_wp2_with fail
  go_ret
  exact ⟨rfl, qA8 HB.out n1⟩
 have H1 := zq (by have := H.out; rwa [if_neg c1] at this)
 have c1b : decide (qFR a0_0 < 0) = false := decide_eq_false c1
 clear c1 H
 have HN1 := zq (HN.out.below (qA8 (Below.refl _ _) n1))
 have HB1 := zq (qA8 HB.out n1)
 generalize W0.drewN n1 = W1 at HN1 HB1 ⊢
 clear HN HB HW0
 obtain ⟨h0, h1, h2, h3, h4, h5, hC⟩ := HN1.out
 have HC := zq hC
 clear hC
 by_cases c2 : (l0_1.length : Int) ≠ qFR a0_0
 ·have hr : r = 3 := by have := H1.out; rw [if_pos c2] at this; exact (zy this).symm
  subst hr
  have c2b : ((l0_1.length : Int) != qFR a0_0) = true := bne_iff_ne.mpr c2
  clear c2
  go_wp2_with fail
  go_quiet ((go_at_call 100; exact Calls.quiet_of ((kids_calls a0_0 _).mono fun e w' h => ⟨h.1, h.2.out⟩)))
  go_wp2_with fail
  go_ret
  exact ⟨rfl, by repeat (first | exact HB1.out | apply qA8)⟩
 have H2 := zq (by have := H1.out; rwa [if_neg c2] at this)
 have c2e : (l0_1.length : Int) = qFR a0_0 := Decidable.not_not.mp c2
 have c2b : ((l0_1.length : Int) != qFR a0_0) = false := bne_eq_false_iff_eq.mpr c2e
 clear c2 c2e H1
 have hq : ∀ n, Calls Tryz.prog 101 #[.slice A0_1 l0_1.length c0_1, .func (.func 102) #[] #[.pointer (some ⟨w.heap.size + 1, 0, none⟩)]] (W1.drewN n) fun e w' => e = .returned (.bool (outB l0_1 a1)) ∧ w' = W1.drewN n := fun n => out_all A0_1 c0_1 l0_1 a1 ⟨w.heap.size + 1, 0, none⟩ _ (Kd.qAB HC.out (qA8 (Below.refl _ _) n)) HL.out h5
 have HQ := zq hq
 clear hq
 by_cases c3 : outB l0_1 a1 = true
 ·have hr : r = 3 := by have := H2.out; rw [if_pos c3] at this; exact (zy this).symm
  subst hr
  go_wp2_with fail
  go_quiet (first | (go_at_call 100; exact Calls.quiet_of ((kids_calls a0_0 _).mono fun e w' h => ⟨h.1, h.2.out⟩)) | (go_at_call 101; exact Calls.quiet_of_same (HQ.out _)))
  go_wp2_with fail
  go_ret
  exact ⟨rfl, by repeat (first | exact HB1.out | apply qA8)⟩
 have H3 := zq (by have := H2.out; rwa [if_neg c3] at this)
 have c3b : outB l0_1 a1 = false := Bool.eq_false_iff.2 c3
 clear c3 H2
 go_wp2_with fail
 go_quiet (first | (go_at_call 100; exact Calls.quiet_of ((kids_calls a0_0 _).mono fun e w' h => ⟨h.1, h.2.out⟩)) | (go_at_call 101; exact Calls.quiet_of_same (HQ.out _)))
 rename_i nq
 have HN2 := zq (HN1.out.below (qA8 (Below.refl _ _) nq))
 have HB2 := zq (qA8 HB1.out nq)
 generalize W1.drewN nq = W2 at HN2 HB2 ⊢
 clear HN1 HB1 HQ HC h0 h1 h2 h3 h4 h5 c1b c2b c3b
 obtain ⟨h0, h1, h2, h3, h4, h5, hC⟩ := HN2.out
 clear hC
 by_cases d1 : a0_0 = 0
 ·have d1b : (a0_0 == 0) = true := beq_iff_eq.mpr d1
  have d1c : (a0_0 != 0) = false := bne_eq_false_iff_eq.mpr d1
  have H4 := zq (by have := H3.out; rwa [if_neg (by omega)] at this)
  have hn : namedB a0_0 = false := decide_eq_false (by omega)
  have HD := zq d1
  clear d1 H3
  by_cases d2 : a0_4.toList = []
  rotate_left
  ·have hr : r = 3 := by have := H4.out; rw [if_pos ⟨hn, d2⟩] at this; exact (zy this).symm
   subst hr
   have d2b : (a0_4.toList == ([] : List UInt8)) = false := beq_eq_false_iff_ne.mpr d2
   have d2c : (a0_4.toList != ([] : List UInt8)) = true := bne_iff_ne.mpr d2
   clear d2
   go_wp2_with fail
   refine (qDC a0_0 _).mono ?_
   rintro e w1 ⟨rfl, ⟨n1, rfl⟩⟩
   rw [hn]
   go_wp2_with fail
   go_ret
   exact ⟨rfl, by repeat (first | exact HB2.out | apply qA8)⟩
  have d2b : (a0_4.toList == ([] : List UInt8)) = true := beq_iff_eq.mpr d2
  have d2c : (a0_4.toList != ([] : List UInt8)) = false := bne_eq_false_iff_eq.mpr d2
  have H5 := zq (by have := H4.out; rwa [if_neg (by simp [d2]), if_pos HD.out] at this)
  clear d2 H4
  go_wp2_with fail
  refine (qDC a0_0 _).mono ?_
  rintro e w1 ⟨rfl, ⟨n1, rfl⟩⟩
  rw [hn]
  by_cases d3 : a0_2 = 0
  ·have hr : r = 8 := by have := H5.out; rw [if_pos d3] at this; exact (zy this).symm
   subst hr
   have d3b : (a0_2 == 0) = true := beq_iff_eq.mpr d3
   clear d3
   go_wp2_with fail
   go_ret
   exact ⟨rfl, by repeat (first | exact HB2.out | apply qA8)⟩
  have H6 := zq (by have := H5.out; rwa [if_neg d3] at this)
  have d3b : (a0_2 == 0) = false := beq_eq_false_iff_ne.mpr d3
  clear d3 H5
  go_wp2_with fail
  refine (qCM.calls a0_2 a0_3 r _ H6.out).mono ?_
  rintro e w2 ⟨rfl, hb⟩
  have HB3 := zq hb
  clear hb
  go_wp2_with fail
  go_ret
  exact ⟨rfl, qA7 (by repeat (first | exact HB2.out | apply qA8)) HB3.out⟩
 have d1b : (a0_0 == 0) = false := beq_eq_false_iff_ne.mpr d1
 have d1c : (a0_0 != 0) = true := bne_iff_ne.mpr d1
 by_cases d4 : a0_0 = 17
 ·have d4b : (a0_0 == 17) = true := beq_iff_eq.mpr d4
  have d4c : (a0_0 != 17) = false := bne_eq_false_iff_eq.mpr d4
  have hn : namedB a0_0 = false := decide_eq_false (by omega)
  have H4 := zq (by have := H3.out; rwa [if_neg (by omega)] at this)
  have HD := zq d4
  have HE := zq d1
  clear d4 d1 H3
  by_cases d2 : a0_4.toList = []
  rotate_left
  ·have hr : r = 3 := by have := H4.out; rw [if_pos ⟨hn, d2⟩] at this; exact (zy this).symm
   subst hr
   have d2b : (a0_4.toList == ([] : List UInt8)) = false := beq_eq_false_iff_ne.mpr d2
   have d2c : (a0_4.toList != ([] : List UInt8)) = true := bne_iff_ne.mpr d2
   clear d2
   go_wp2_with fail
   refine (qDC a0_0 _).mono ?_
   rintro e w1 ⟨rfl, ⟨n1, rfl⟩⟩
   rw [hn]
   go_wp2_with fail
   go_ret
   exact ⟨rfl, by repeat (first | exact HB2.out | apply qA8)⟩
  have d2b : (a0_4.toList == ([] : List UInt8)) = true := beq_iff_eq.mpr d2
  have d2c : (a0_4.toList != ([] : List UInt8)) = false := bne_eq_false_iff_eq.mpr d2
  have H5 := zq (by have := H4.out; rwa [if_neg (by simp [d2]), if_neg HE.out, if_pos HD.out] at this)
  clear d2 H4
  go_wp2_with fail
  refine (qDC a0_0 _).mono ?_
  rintro e w1 ⟨rfl, ⟨n1, rfl⟩⟩
  rw [hn]
  by_cases e1 : a0_2 < 0
  ·have hr : r = 1 := by have := H5.out; rw [if_pos (.inl e1)] at this; exact (zy this).symm
   subst hr
   have e1b : decide (a0_2 < 0) = true := decide_eq_true e1
   clear e1
   go_wp2_with fail
   go_ret
   exact ⟨rfl, by repeat (first | exact HB2.out | apply qA8)⟩
  have e1b : decide (a0_2 < 0) = false := decide_eq_false e1
  by_cases e2 : 5 ≤ a0_2
  ·have hr : r = 1 := by have := H5.out; rw [if_pos (.inr (.inl e2))] at this; exact (zy this).symm
   subst hr
   have e2b : decide (5 ≤ a0_2) = true := decide_eq_true e2
   clear e1 e2
   go_wp2_with fail
   go_ret
   exact ⟨rfl, by repeat (first | exact HB2.out | apply qA8)⟩
  have e2b : decide (5 ≤ a0_2) = false := decide_eq_false e2
  by_cases e3 : a0_3 < 1
  ·have hr : r = 1 := by have := H5.out; rw [if_pos (.inr (.inr (.inl e3)))] at this; exact (zy this).symm
   subst hr
   have e3b : decide (a0_3 < 1) = true := decide_eq_true e3
   clear e1 e2 e3
   go_wp2_with fail
   go_ret
   exact ⟨rfl, by repeat (first | exact HB2.out | apply qA8)⟩
  have e3b : decide (a0_3 < 1) = false := decide_eq_false e3
  by_cases e4 : 1099511627776 < a0_3
  ·have hr : r = 1 := by have := H5.out; rw [if_pos (.inr (.inr (.inr e4)))] at this; exact (zy this).symm
   subst hr
   have e4b : decide (1099511627776 < a0_3) = true := decide_eq_true e4
   clear e1 e2 e3 e4
   go_wp2_with fail
   go_ret
   exact ⟨rfl, by repeat (first | exact HB2.out | apply qA8)⟩
  have e4b : decide (1099511627776 < a0_3) = false := decide_eq_false e4
  have hr : r = 0 := by have := H5.out; rw [if_neg (by omega)] at this; exact (zy this).symm
  subst hr
  clear e1 e2 e3 e4
  go_wp2_with fail
  refine (qDC a0_0 _).mono ?_
  rintro e w1 ⟨rfl, ⟨n2, rfl⟩⟩
  rw [hn]
  go_wp2_with fail
  go_ret
  exact ⟨rfl, by repeat (first | exact HB2.out | apply qA8)⟩
 have d4b : (a0_0 == 17) = false := beq_eq_false_iff_ne.mpr d4
 have d4c : (a0_0 != 17) = true := bne_iff_ne.mpr d4
 by_cases f1 : a0_2 = 0
 case neg =>
  have hr : r = 3 := by have := H3.out; rw [if_pos ⟨⟨d1, d4⟩, .inl f1⟩] at this; exact (zy this).symm
  subst hr
  have f1b : (a0_2 != 0) = true := bne_iff_ne.mpr f1
  clear f1 d1 d4
  go_wp2_with fail
  go_ret
  exact ⟨rfl, by repeat (first | exact HB2.out | apply qA8)⟩
 have f1b : (a0_2 != 0) = false := bne_eq_false_iff_eq.mpr f1
 by_cases f2 : a0_3 = 0
 case neg =>
  have hr : r = 3 := by have := H3.out; rw [if_pos ⟨⟨d1, d4⟩, .inr f2⟩] at this; exact (zy this).symm
  subst hr
  have f2b : (a0_3 != 0) = true := bne_iff_ne.mpr f2
  clear f1 f2 d1 d4
  go_wp2_with fail
  go_ret
  exact ⟨rfl, by repeat (first | exact HB2.out | apply qA8)⟩
 have f2b : (a0_3 != 0) = false := bne_eq_false_iff_eq.mpr f2
 have H4 := zq (by have := H3.out; rwa [if_neg (by omega), if_neg d1, if_neg d4] at this)
 clear f1 f2 d1 d4 H3
 by_cases hn : namedB a0_0 = true
 rotate_left
 ·have hn := Bool.eq_false_iff.2 hn
  by_cases d2 : a0_4.toList = []
  rotate_left
  ·have hr : r = 3 := by have := H4.out; rw [if_pos ⟨hn, d2⟩] at this; exact (zy this).symm
   subst hr
   have d2b : (a0_4.toList == ([] : List UInt8)) = false := beq_eq_false_iff_ne.mpr d2
   have d2c : (a0_4.toList != ([] : List UInt8)) = true := bne_iff_ne.mpr d2
   clear d2
   go_wp2_with fail
   refine (qDC a0_0 _).mono ?_
   rintro e w1 ⟨rfl, ⟨n1, rfl⟩⟩
   rw [hn]
   go_wp2_with fail
   go_ret
   exact ⟨rfl, by repeat (first | exact HB2.out | apply qA8)⟩
  have hr : r = 0 := by have := H4.out; rw [if_neg (by simp [d2]), if_neg (by simp [hn])] at this; exact (zy this).symm
  subst hr
  have d2b : (a0_4.toList == ([] : List UInt8)) = true := beq_iff_eq.mpr d2
  have d2c : (a0_4.toList != ([] : List UInt8)) = false := bne_eq_false_iff_eq.mpr d2
  clear d2 H4
  go_wp2_with fail
  refine (qDC a0_0 _).mono ?_
  rintro e w1 ⟨rfl, ⟨n1, rfl⟩⟩
  rw [hn]
  go_wp2_with fail
  refine (qDC a0_0 _).mono ?_
  rintro e w1 ⟨rfl, ⟨n2, rfl⟩⟩
  rw [hn]
  go_wp2_with fail
  go_ret
  exact ⟨rfl, by repeat (first | exact HB2.out | apply qA8)⟩
 have H5 := zq (by have := H4.out; rwa [if_neg (by simp [hn]), if_pos hn] at this)
 clear H4
 obtain ⟨b, hb1, hb2⟩ := zi H5.out
 have hk := hb1
 have HK := zq hk
 have HR := zq hb2
 clear hb1 hb2 hk H5
 go_wp2_with fail
 refine (qDC a0_0 _).mono ?_
 rintro e w1 ⟨rfl, ⟨n1, rfl⟩⟩
 rw [hn]
 go_wp2_with fail
 refine (qDC a0_0 _).mono ?_
 rintro e w1 ⟨rfl, ⟨n2, rfl⟩⟩
 rw [hn]
 go_wp2_with fail
 refine (qB4.calls 200 a0_4 b _ HK.out).mono ?_
 rintro e w2 ⟨rfl, hb⟩
 have HB3 := zq hb
 clear hb
 cases b
 ·have hr : r = 15 := by have := HR.out; simp at this; exact this.symm
  subst hr
  go_wp2_with fail
  go_ret
  exact ⟨rfl, qA7 (by repeat (first | exact HB2.out | apply qA8)) HB3.out⟩
 ·have hr : r = 0 := by have := HR.out; simp at this; exact this.symm
  subst hr
  go_wp2_with fail
  go_ret
  exact ⟨rfl, qA7 (by repeat (first | exact HB2.out | apply qA8)) HB3.out⟩
def qAD.l0 : Nat → List Int → Int → Int → Int → Option (Int)
 | 0, _, _, _, _ => none
 | k + 1, x0, x1, x7, x8 => if x8 < x7 then (if 0 ≤ x8 then (if x8 < (x0.length : Int) then (if x1 = (rd x0 x8) then (some x8) else (qAD.l0 k x0 x1 x7 (wrap64 (x8 + 1)))) else (none)) else (none)) else (some (-1))
def qAD.f (k : Nat) (l0 : List Int) (a1 : Int) : Option (Int) := qAD.l0 k l0 a1 (l0.length : Int) 0
theorem qAD.qBT : ∀ k, (∀ y0 y1 y2 y3, LeO (qAD.l0 k y0 y1 y2 y3) (qAD.l0 (k + 1) y0 y1 y2 y3))
 | 0 => fun _ _ _ _ r h => by simp [qAD.l0] at h
 | k + 1 => by
  have ih0 := qAD.qBT k
  ·intro y0 y1 y2 y3
   unfold qAD.l0
   exact zm
theorem qAD.mono : ∀ a0 a1 k, LeO (qAD.f k a0 a1) (qAD.f (k + 1) a0 a1) := by
 intro a0 a1 k
 have ih0 := qAD.qBT k
 unfold qAD.f
 exact zm
theorem qAD.calls (k : Nat) (A0 : Option Addr) (c0 : Nat) (l0 : List Int) (a1 : Int) (r : Int) (w : World) (hr0 : Kd.C (Kd.int .i64) w A0 l0.length l0) (hc0 : l0.length ≤ c0) (h : qAD.f k l0 a1 = some r) :
  Calls Tryz.prog 104 #[.slice A0 l0.length c0, .int .i64 a1] w fun e w' => e = .returned (.int .i64 r) ∧ qB8 w w' := by
 have HR0 := zq hr0
 have HC0 := zq hc0
 clear hr0 hc0
 have H := h
 unfold qAD.f at H
 clear h
 have H' := zq H
 clear H
 go_enter Tryz.func104, Tryz.ntmps104
 go_wp2
 go_loopg [8] k (fun kq v8 w' => ∃ (x8_1 : Int), v8 = .int .i64 x8_1 ∧ qA0 (qAD.l0 kq l0 a1 (l0.length : Int) x8_1 = some r) ∧ qA0 (kq ≤ k) ∧ qB8 w w')
 case atStart => exact ⟨(0), zs, H', ⟨Nat.le_refl _⟩, by repeat (first | exact qB8.refl _ | apply qB8.step)⟩
 clear H'
 obtain ⟨x8_1, rfl, HA, HK1, ⟨m1, rfl⟩⟩ := hrel
 obtain _ | k1 := gk
 ·exact absurd HA.out (by simp [qAD.l0])
 have H := HA.out
 clear HA
 simp only [qAD.l0] at H
 obtain ⟨-, c3b0, H⟩ | ⟨-, c3b0, H⟩ := y3 H
 rotate_left
 ·obtain rfl := zy H
  go_wp2
  go_ret
  exact ⟨zs, zD⟩
 obtain ⟨-, c4b0, H⟩ := y1 H
 obtain ⟨-, c5b0, H⟩ := y1 H
 obtain ⟨-, c6b0, c6b1, H⟩ | ⟨c6, c6b0, c6b1, H⟩ := y4 H
 ·obtain rfl := zy H
  obtain ⟨p150, q150, ad150, e150, hx150_0⟩ := yp (Kd.qCB HR0.out x8_1)
  cases e150
  go_wp2
  go_ret
  exact ⟨zs, zD⟩
 have H' := zq H
 clear H
 obtain ⟨p150, q150, ad150, e150, hx150_0⟩ := yp (Kd.qCB HR0.out x8_1)
 cases e150
 go_wp2
 go_roundg k1
 case measure => have := HK1.out; omega
 case rel => exact ⟨(wrap64 (x8_1 + 1)), zs, H', ⟨by have := HK1.out; omega⟩, by repeat (first | exact qB8.refl _ | apply qB8.step)⟩
def qAO.f (k : Nat) (l0 : List Int) (a1 : Int) : Option (Bool) := (qAD.f k l0 a1).bind fun t151 => (some (decide (t151 ≥ 0)))
theorem qAO.mono : ∀ a0 a1 k, LeO (qAO.f k a0 a1) (qAO.f (k + 1) a0 a1) := by
 intro a0 a1 k
 unfold qAO.f
 have im0 := @qAD.mono
 exact zm
theorem qAO.calls (k : Nat) (A0 : Option Addr) (c0 : Nat) (l0 : List Int) (a1 : Int) (r : Bool) (w : World) (hr0 : Kd.C (Kd.int .i64) w A0 l0.length l0) (hc0 : l0.length ≤ c0) (h : qAO.f k l0 a1 = some r) :
  Calls Tryz.prog 90 #[.slice A0 l0.length c0, .int .i64 a1] w fun e w' => e = .returned (.bool r) ∧ qB8 w w' := by
 have HR0 := zq hr0
 have HC0 := zq hc0
 clear hr0 hc0
 have H := h
 unfold qAO.f at H
 clear h
 replace H := zi H
 obtain ⟨t151, A30, H⟩ := H
 have A3 := zq A30
 clear A30
 obtain rfl := zy H
 go_enter Tryz.func90, Tryz.ntmps90
 go_wp2_with ((refine qBY (some 7) Tryz.func104 #[.slice A0 l0.length c0, .int .i64 a1] ?_; (with_reducible refine (qAD.calls k _ _ l0 a1 t151 _ ?side1 ?side2 A3.out).mono ?_); (case side1 => repeat (first | exact HR0.out | refine sC ?_)); (case side2 => exact HC0.out); rintro e w' ⟨rfl, ⟨nd, rfl⟩⟩; refine ⟨_, rfl, ?_⟩))
 go_ret
 exact ⟨zs, zD⟩
mutual
def qAP.l0 : Nat → List (S79) → List Int → List (S79) → Int → Int → Option (Int)
 | 0, _, _, _, _, _ => none
 | k + 1, x0, x3, x18, x19, x20 => if x20 < x19 then (if 0 ≤ x20 then (if x20 < (x18.length : Int) then ((qFB.f ((qA3 x18 x20).f0) ((qA3 x18 x20).f1) ((qA3 x18 x20).f2) ((qA3 x18 x20).f3) ((qA3 x18 x20).f4) x20).bind fun t162 => (if t162 = 0 then (qAP.l1 k x0 x3 x18 x19 x20 ((qA3 x18 x20).f1) (((qA3 x18 x20).f1).length : Int) 0) else (some t162))) else (none)) else (none)) else (if 0 ≤ (wrap64 ((x0.length : Int) - 1)) then (if (wrap64 ((x0.length : Int) - 1)) ≤ (x3.length : Int) then ((qAO.f k (x3.take ((wrap64 ((x0.length : Int) - 1)) : Int).toNat) 0).bind fun t159 => (if t159 = true then (some 3) else (some 0))) else (none)) else (none))
def qAP.l1 : Nat → List (S79) → List Int → List (S79) → Int → Int → List Int → Int → Int → Option (Int)
 | 0, _, _, _, _, _, _, _, _ => none
 | k + 1, x0, x3, x18, x19, x20, x32, x33, x34 => if x34 < x33 then (if 0 ≤ x34 then (if x34 < (x32.length : Int) then (if 0 ≤ (rd x32 x34) then (if (rd x32 x34) < (x3.length : Int) then ((some (x3.set ((rd x32 x34) : Int).toNat (wrap64 ((rd x3 (rd x32 x34)) + 1)) : List Int)).bind fun y165 => (if (rd y165 (rd x32 x34)) > 1 then (some 3) else (qAP.l1 k x0 y165 x18 x19 x20 x32 x33 (wrap64 (x34 + 1))))) else (none)) else (none)) else (none)) else (none)) else (qAP.l0 k x0 x3 x18 x19 (wrap64 (x20 + 1)))
end
def qAP.f (k : Nat) (l0 : List (S79)) : Option (Int) := if (l0.length : Int) > 100 then (some 2) else (if (l0.length : Int) = 0 then (some 4) else (if 0 ≤ (l0.length : Int) then (if ((l0.length : Int) : Int).toNat ≤ 35184372088832 then (qAP.l0 k l0 (List.replicate ((l0.length : Int) : Int).toNat 0) l0 (l0.length : Int) 0) else (none)) else (none)))
theorem qAP.qBT : ∀ k, (∀ y0 y1 y2 y3 y4, LeO (qAP.l0 k y0 y1 y2 y3 y4) (qAP.l0 (k + 1) y0 y1 y2 y3 y4)) ∧ (∀ y0 y1 y2 y3 y4 y5 y6 y7, LeO (qAP.l1 k y0 y1 y2 y3 y4 y5 y6 y7) (qAP.l1 (k + 1) y0 y1 y2 y3 y4 y5 y6 y7))
 | 0 => ⟨fun _ _ _ _ _ r h => by simp [qAP.l0] at h, fun _ _ _ _ _ _ _ _ r h => by simp [qAP.l1] at h⟩
 | k + 1 => by
  obtain ⟨ih0, ih1⟩ := qAP.qBT k
  refine ⟨?_, ?_⟩
  ·intro y0 y1 y2 y3 y4
   unfold qAP.l0
   have im0 := @qAO.mono
   exact zm
  ·intro y0 y1 y2 y3 y4 y5 y6 y7
   unfold qAP.l1
   have im0 := @qAO.mono
   exact zm
theorem qAP.mono : ∀ a0 k, LeO (qAP.f k a0) (qAP.f (k + 1) a0) := by
 intro a0 k
 obtain ⟨ih0, ih1⟩ := qAP.qBT k
 unfold qAP.f
 have im0 := @qAO.mono
 exact zm
theorem qAP.calls (k : Nat) (A0 : Option Addr) (c0 : Nat) (l0 : List (S79)) (r : Int) (w : World) (hr0 : Kd.C k79 w A0 l0.length l0) (hc0 : l0.length ≤ c0) (h : qAP.f k l0 = some r) :
  Calls Tryz.prog 67 #[.slice A0 l0.length c0] w fun e w' => e = .returned (.int .i64 r) ∧ Below w.heap.size w w' := by
 have hu79 := Tryz.underlying79
 have HR0 := zq hr0
 have HC0 := zq hc0
 clear hr0 hc0
 have HB := zq (Below.refl w.heap.size w)
 have H := h
 unfold qAP.f at H
 clear h
 obtain ⟨c2, c2b0, H⟩ | ⟨c2, c2b0, H⟩ := y3 H
 ·have c2b1 : decide (100 < l0.length) = true := decide_eq_true (by omega)
  clear c2
  obtain rfl := zy H
  go_enter Tryz.func67, Tryz.ntmps67
  go_wp2
  go_ret
  exact ⟨zf, zb⟩
 have c2b1 : decide (100 < l0.length) = false := decide_eq_false (by omega)
 clear c2
 obtain ⟨-, c3b0, c3b1, H⟩ | ⟨c3, c3b0, c3b1, H⟩ := y4 H
 ·obtain rfl := zy H
  go_enter Tryz.func67, Tryz.ntmps67
  go_wp2
  go_ret
  exact ⟨zf, zb⟩
 have c3b2 : ¬ (l0 = []) := fun h_ => c3 (by rw [h_]; rfl)
 obtain ⟨c4, -, H⟩ := y1 H
 have c4b0 := eq_true c4
 have c4b1 := decide_eq_true c4
 clear c4
 obtain ⟨c5, -, H⟩ := y1 H
 have c5b0 := eq_true c5
 have c5b1 := decide_eq_true c5
 clear c5
 obtain ⟨y152, hy_⟩ : ∃ y_ : List Int, y_ = (List.replicate ((l0.length : Int) : Int).toNat 0) := ⟨_, rfl⟩
 replace H : (qAP.l0 k l0 y152 l0 (l0.length : Int) 0) = some r := zr
 have Ny152 := zq hy_
 clear hy_
 have H' := zq H
 clear H
 go_enter Tryz.func67, Tryz.ntmps67
 go_wp2_with (((with_reducible refine qAS (N := 17) rfl ?_); refine Kd.R_make (Kd.int .i64) _ 3 rfl (N := 17) rfl 77 _ _ rfl (l0.length : Int) rfl rfl Tryz.underlying77 (.int .i64 0) 8 info3 rfl (by decide) (by omega) 0 (ok := fun _ => True) (okp := fun _ => True) rfl (fun _ hk => hk) trivial (zd) (Nat.le_trans (Nat.mul_le_mul_right _ (zd : (l0.length : Int).toNat ≤ 35184372088832)) (by omega)) (Below.refl _ _) (Nat.le_refl _) ?_; intro v153 w6 ho7 hb hg_ hnew_; clear hg_ hnew_; (first | rw [← Ny152.out] at ho7 | (simp only [Int.reduceToNat] at ho7; rw [← Ny152.out] at ho7)); have HO154 := zq (Kd.qC3 ho7 (qAH zb)); replace HB := zB hb; clear hb ho7))
 go_loopg [20] k (fun kq v20 w' => ∃ (x3_1 : List Int) (x20_1 : Int), v20 = .int .i64 x20_1 ∧ qA0 (qAP.l0 kq l0 x3_1 l0 (l0.length : Int) x20_1 = some r) ∧ qA0 (kq ≤ k) ∧ qA0 (Kd.R (Kd.int .i64) 3 w' w.heap.size (fun _ => True) v153 x3_1) ∧ qA0 (Below w.heap.size w w'))
 case atStart => exact ⟨(y152), (0), zs, H', ⟨Nat.le_refl _⟩, zR HO154, ⟨zb⟩⟩
 clear H' c2b0 c2b1 c3 c3b0 c3b1 c3b2 c4b0 c4b1 c5b0 c5b1
 obtain ⟨x3_1, x20_1, rfl, HA, HK1, HO_3, HB⟩ := hrel
 obtain _ | k1 := gk
 ·exact absurd HA.out (by simp [qAP.l0])
 have H := HA.out
 clear HA
 simp only [qAP.l0] at H
 obtain ⟨-, c8b0, H⟩ | ⟨-, c8b0, H⟩ := y3 H
 rotate_left
 ·obtain ⟨ji33, hji33⟩ : ∃ j_ : Int, (wrap64 ((l0.length : Int) - 1)) = j_ := ⟨_, rfl⟩
  replace H : (if 0 ≤ (ji33) then (if (ji33) ≤ (x3_1.length : Int) then ((qAO.f k1 (x3_1.take ((ji33) : Int).toNat) 0).bind fun t159 => (if t159 = true then (some 3) else (some 0))) else (none)) else (none)) = some r := by first | (rw [hji33] at H; exact H) | (simp only [hji33] at H ⊢; exact H)
  have hji33w : (IntKind.i64.wrap ((l0.length : Int) - 1)) = ji33 := (qCI _).trans hji33
  obtain ⟨c34, -, H⟩ := y1 H
  have c34b0 := eq_true c34
  have c34b1 := decide_eq_true c34
  clear c34
  obtain ⟨c35, -, H⟩ := y1 H
  have c35b0 := eq_true c35
  have c35b1 := decide_eq_true c35
  clear c35
  obtain ⟨y155, hy_⟩ : ∃ y_ : List Int, y_ = (x3_1.take ((ji33) : Int).toNat) := ⟨_, rfl⟩
  replace H : ((qAO.f k1 y155 0).bind fun t159 => (if t159 = true then (some 3) else (some 0))) = some r := zr
  have Ny155 := zq hy_
  clear hy_
  replace H := zi H
  obtain ⟨t159, A360, H⟩ := H
  have A36 := zq A360
  clear A360
  by_cases c37 : t159 = true
  ·subst c37
   rw [if_pos rfl] at H
   obtain rfl := zy H
   obtain ⟨Ao39, co39, eo39⟩ := Kd.qBX HO_3.out
   subst eo39
   have q38 : ((ji33) : Int) ≤ ((x3_1.length : Int) : Int) := zd
   obtain ⟨i038, hi038, _, hsz38, _⟩ := info_parts info3
   have hroom38 : x3_1.length ≤ co39 := (Kd.qAR HO_3.out).2.1
   have hC38 : Kd.C (Kd.int .i64) _ Ao39 x3_1.length x3_1 := (Kd.qAR HO_3.out).2.2
   have hcut38 := cut_to (P := Tryz.prog) 77 3 .i64 Tryz.underlying77 hi038 Ao39 x3_1.length co39 (ji33) (zd) q38 hroom38
   have hr38 := Kd.C_take (m := ((ji33) : Int).toNat) hC38 (by omega)
   have hy38 : y155.length = ((ji33) : Int).toNat := (by rw [Ny155.out, List.length_take]; omega)
   rw [← Ny155.out] at hr38
   rw [← hy38] at hcut38
   have HR158 := zq hr38
   have HC158 := zq (show y155.length ≤ co39 from by omega)
   clear hr38 hC38 hroom38 hi038 hsz38
   have KY38 := zq hy38
   clear hy38
   have KL38 := zq (show ((ji33) : Int).toNat ≤ x3_1.length from by omega)
   replace q38 := eq_true q38
   go_wp2_with ((refine qBY (some 56) Tryz.func90 #[.slice Ao39 y155.length co39, .int .i64 0] ?_; (with_reducible refine (qAO.calls k1 _ _ y155 0 true _ ?side1 ?side2 A36.out).mono ?_); (case side1 => repeat (first | exact (by repeat (first | (with_reducible exact HR158.out) | (with_reducible refine Kd.C_alloc ?_ _) | (with_reducible refine Kd.C_drewN ?_ _) | (with_reducible refine Kd.C_drew ?_) | exact HR158.out)) | (with_reducible refine Kd.C_alloc ?_ _) | (with_reducible refine Kd.C_drewN ?_ _) | (with_reducible refine Kd.C_drew ?_))); (case side2 => exact HC158.out); rintro e w' ⟨rfl, ⟨nd, rfl⟩⟩; refine ⟨_, rfl, ?_⟩))
   go_ret
   exact ⟨by first | rfl | (simp [qD9, qD8] <;> rfl) | (simp only [← hji33]; first | rfl | (simp [qD9, qD8] <;> rfl)) | (simp [*, qD9, qD8] <;> rfl), zb⟩
  replace c37 := Bool.eq_false_iff.mpr c37
  subst c37
  rw [zj] at H
  obtain rfl := zy H
  obtain ⟨Ao41, co41, eo41⟩ := Kd.qBX HO_3.out
  subst eo41
  have q40 : ((ji33) : Int) ≤ ((x3_1.length : Int) : Int) := zd
  obtain ⟨i040, hi040, _, hsz40, _⟩ := info_parts info3
  have hroom40 : x3_1.length ≤ co41 := (Kd.qAR HO_3.out).2.1
  have hC40 : Kd.C (Kd.int .i64) _ Ao41 x3_1.length x3_1 := (Kd.qAR HO_3.out).2.2
  have hcut40 := cut_to (P := Tryz.prog) 77 3 .i64 Tryz.underlying77 hi040 Ao41 x3_1.length co41 (ji33) (zd) q40 hroom40
  have hr40 := Kd.C_take (m := ((ji33) : Int).toNat) hC40 (by omega)
  have hy40 : y155.length = ((ji33) : Int).toNat := (by rw [Ny155.out, List.length_take]; omega)
  rw [← Ny155.out] at hr40
  rw [← hy40] at hcut40
  have HR158 := zq hr40
  have HC158 := zq (show y155.length ≤ co41 from by omega)
  clear hr40 hC40 hroom40 hi040 hsz40
  have KY40 := zq hy40
  clear hy40
  have KL40 := zq (show ((ji33) : Int).toNat ≤ x3_1.length from by omega)
  replace q40 := eq_true q40
  go_wp2_with ((refine qBY (some 56) Tryz.func90 #[.slice Ao41 y155.length co41, .int .i64 0] ?_; (with_reducible refine (qAO.calls k1 _ _ y155 0 false _ ?side1 ?side2 A36.out).mono ?_); (case side1 => repeat (first | exact (by repeat (first | (with_reducible exact HR158.out) | (with_reducible refine Kd.C_alloc ?_ _) | (with_reducible refine Kd.C_drewN ?_ _) | (with_reducible refine Kd.C_drew ?_) | exact HR158.out)) | (with_reducible refine Kd.C_alloc ?_ _) | (with_reducible refine Kd.C_drewN ?_ _) | (with_reducible refine Kd.C_drew ?_))); (case side2 => exact HC158.out); rintro e w' ⟨rfl, ⟨nd, rfl⟩⟩; refine ⟨_, rfl, ?_⟩))
  go_ret
  exact ⟨by first | rfl | (simp [qD9, qD8] <;> rfl) | (simp only [← hji33]; first | rfl | (simp [qD9, qD8] <;> rfl)) | (simp [*, qD9, qD8] <;> rfl), zb⟩
 obtain ⟨-, c9b0, H⟩ := y1 H
 obtain ⟨-, c10b0, H⟩ := y1 H
 replace H := zi H
 obtain ⟨t162, A110, H⟩ := H
 have A11 := zq A110
 clear A110
 obtain ⟨-, c12b0, c12b1, H⟩ | ⟨c12, c12b0, c12b1, H⟩ := y4 H
 rotate_left
 ·obtain rfl := zy H
  obtain ⟨p160, q160, ad160, A160_1, c160_1, e160, hx160_0, hx160_1, hx160_2, hx160_3, hx160_4, hl160_1, hi160_1⟩ := yp (at_T79 HR0.out x20_1)
  cases e160
  (try replace hx160_0 := zh hx160_0)
  replace hx160_1 := zh hx160_1
  replace hx160_2 := zh hx160_2
  replace hx160_3 := zh hx160_3
  replace hx160_4 := zh hx160_4
  have HR160_1 := zq hi160_1
  have HC160_1 := zq hl160_1
  clear hi160_1 hl160_1
  go_wp2_with (first | (refine boxY 5 #[.int .i64 0, .slice none 0 0, .int .i64 0, .int .i64 0, .string (⟨#[]⟩ : ByteArray)] 79 ?_; intro gb161 hg w30 BK161 hb; have GW161 := zg w gb161; replace HO_3 := zq (Kd.qBM (by (with_reducible repeat refine sR ?_); exact HO_3.out) hb); replace HB := zB hb; clear hb hg; have hcz31 := bc5 BK161.out) | (refine qBY (some 27) Tryz.func89 #[.agg #[.int .i64 ((qA3 l0 x20_1).f0), .slice A160_1 ((qA3 l0 x20_1).f1).length c160_1, .int .i64 ((qA3 l0 x20_1).f2), .int .i64 ((qA3 l0 x20_1).f3), .string ((qA3 l0 x20_1).f4)], .int .i64 x20_1] ?_; (with_reducible refine (qFB.calls ((qA3 l0 x20_1).f0) _ _ ((qA3 l0 x20_1).f1) ((qA3 l0 x20_1).f2) ((qA3 l0 x20_1).f3) ((qA3 l0 x20_1).f4) x20_1 t162 _ ?side1 ?side2 A11.out).mono ?_); (case side1 => exact Kd.qAB HR160_1.out zb); (case side2 => exact HC160_1.out); rintro e w32 ⟨rfl, hb⟩; refine ⟨_, rfl, ?_⟩; replace HO_3 := zq (Kd.qBM (by (with_reducible repeat refine sR ?_); exact (zRf5 (Kd.qBW HO_3.out BK161.out (by decide)))) hb); replace BK161 := zq (qAM (zp5 BK161) hb); replace HB := zB hb; (try clear hb hk); (try clear hb)))
  go_ret
  exact ⟨zf, zb⟩
 have H' := zq H
 clear H
 obtain ⟨p160, q160, ad160, A160_1, c160_1, e160, hx160_0, hx160_1, hx160_2, hx160_3, hx160_4, hl160_1, hi160_1⟩ := yp (at_T79 HR0.out x20_1)
 cases e160
 (try replace hx160_0 := zh hx160_0)
 replace hx160_1 := zh hx160_1
 replace hx160_2 := zh hx160_2
 replace hx160_3 := zh hx160_3
 replace hx160_4 := zh hx160_4
 have HR160_1 := zq hi160_1
 have HC160_1 := zq hl160_1
 clear hi160_1 hl160_1
 go_wp2_with (first | (refine boxY 5 #[.int .i64 0, .slice none 0 0, .int .i64 0, .int .i64 0, .string (⟨#[]⟩ : ByteArray)] 79 ?_; intro gb161 hg w13 BK161 hb; have GW161 := zg w gb161; replace HO_3 := zq (Kd.qBM (by (with_reducible repeat refine sR ?_); exact HO_3.out) hb); replace HB := zB hb; clear hb hg; have hcz14 := bc5 BK161.out) | (refine qBY (some 27) Tryz.func89 #[.agg #[.int .i64 ((qA3 l0 x20_1).f0), .slice A160_1 ((qA3 l0 x20_1).f1).length c160_1, .int .i64 ((qA3 l0 x20_1).f2), .int .i64 ((qA3 l0 x20_1).f3), .string ((qA3 l0 x20_1).f4)], .int .i64 x20_1] ?_; (with_reducible refine (qFB.calls ((qA3 l0 x20_1).f0) _ _ ((qA3 l0 x20_1).f1) ((qA3 l0 x20_1).f2) ((qA3 l0 x20_1).f3) ((qA3 l0 x20_1).f4) x20_1 t162 _ ?side1 ?side2 A11.out).mono ?_); (case side1 => exact Kd.qAB HR160_1.out zb); (case side2 => exact HC160_1.out); rintro e w15 ⟨rfl, hb⟩; refine ⟨_, rfl, ?_⟩; replace HO_3 := zq (Kd.qBM (by (with_reducible repeat refine sR ?_); exact (zRf5 (Kd.qBW HO_3.out BK161.out (by decide)))) hb); replace BK161 := zq (qAM (zp5 BK161) hb); replace HB := zB hb; (try clear hb hk); (try clear hb); have hcz16 := bc5 BK161.out))
 go_loopg [34] k1 (fun kq v34 w' => ∃ (x3_2 : List Int) (x34_2 : Int), v34 = .int .i64 x34_2 ∧ qA0 (qAP.l1 kq l0 x3_2 l0 (l0.length : Int) x20_1 ((qA3 l0 x20_1).f1) (((qA3 l0 x20_1).f1).length : Int) x34_2 = some r) ∧ qA0 (kq ≤ k1) ∧ qA0 (Kd.R (Kd.int .i64) 3 w' w.heap.size (fun _ => True) v153 x3_2) ∧ qA0 (w'.heap[gb161]? = some (.cells #[.int .i64 ((qA3 l0 x20_1).f0), (.slice A160_1 ((qA3 l0 x20_1).f1).length c160_1), .int .i64 ((qA3 l0 x20_1).f2), .int .i64 ((qA3 l0 x20_1).f3), .string ((qA3 l0 x20_1).f4)] 79 (0, 0))) ∧ qA0 (Below w.heap.size w w'))
 case atStart => exact ⟨(x3_1), (0), zs, H', ⟨Nat.le_refl _⟩, zR HO_3, ⟨zk BK161⟩, ⟨zb⟩⟩
 clear H' c8b0 c9b0 c10b0 c12b0 c12b1 hcz14 hcz16 hx160_0 hx160_1 hx160_2 hx160_3 hx160_4 p160 q160
 obtain ⟨x3_2, x34_2, rfl, HA, HK2, HO_3, BK161, HB⟩ := hrel
 obtain _ | k2 := gk
 ·exact absurd HA.out (by simp [qAP.l1])
 have H := HA.out
 clear HA
 simp only [qAP.l1] at H
 obtain ⟨-, c17b0, H⟩ | ⟨-, c17b0, H⟩ := y3 H
 rotate_left
 ·have H' := zq H
  clear H
  go_wp2
  go_roundg k2
  case measure => have := HK1.out; have := HK2.out; omega
  case rel => exact ⟨(x3_2), (wrap64 (x20_1 + 1)), zs, H', ⟨by have := HK1.out; have := HK2.out; omega⟩, zR HO_3, ⟨zb⟩⟩
 obtain ⟨-, c18b0, H⟩ := y1 H
 obtain ⟨-, c19b0, H⟩ := y1 H
 obtain ⟨-, c20b0, H⟩ := y1 H
 obtain ⟨-, c21b0, H⟩ := y1 H
 obtain ⟨y165, hy_⟩ : ∃ y_ : List Int, y_ = (x3_2.set ((rd ((qA3 l0 x20_1).f1) x34_2) : Int).toNat (wrap64 ((rd x3_2 (rd ((qA3 l0 x20_1).f1) x34_2)) + 1))) := ⟨_, rfl⟩
 replace H : (if (rd y165 (rd ((qA3 l0 x20_1).f1) x34_2)) > 1 then (some 3) else (qAP.l1 k2 l0 y165 l0 (l0.length : Int) x20_1 ((qA3 l0 x20_1).f1) (((qA3 l0 x20_1).f1).length : Int) (wrap64 (x34_2 + 1)))) = some r := zr
 have Ny165 := zq hy_
 clear hy_
 obtain ⟨-, c23b0, H⟩ | ⟨-, c23b0, H⟩ := y3 H
 ·obtain rfl := zy H
  obtain ⟨p163, q163, ad163, e163, hx163_0⟩ := yp (Kd.qCB HR160_1.out x34_2)
  cases e163
  (try replace hx163_0 := zh hx163_0)
  obtain ⟨Ao24, co24, eo24⟩ := Kd.qBX HO_3.out
  subst eo24
  obtain ⟨p164, q164, ad164, e164, hx164_0⟩ := yp (Kd.qCB (Kd.qAR HO_3.out).2.2 (rd ((qA3 l0 x20_1).f1) x34_2))
  cases e164
  have p22 : 0 ≤ ((rd ((qA3 l0 x20_1).f1) x34_2) : Int) := zd
  have q22 : ((rd ((qA3 l0 x20_1).f1) x34_2) : Int) < ((x3_2.length : Int) : Int) := zd
  obtain ⟨go22, co22, eo22, gb22, gl22, cl22, HG22⟩ := Kd.R_form HO_3.out (by omega)
  (first | cases eo22 | (injection eo22 with ea_ en_ ec_; (first | subst ea_ | (injection ea_ with ea_; subst ea_)); subst ec_; clear en_))
  have GB22 := zq gb22
  have GG22 := zq HG22
  clear gb22 gl22 HG22
  (first | simp only [add_plain] at hx164_0 | skip)
  obtain ⟨hx22_0, hf22_0⟩ := Kd.R_celln 0 HO_3.out ((rd ((qA3 l0 x20_1).f1) x34_2) : Int) p22 q22
  replace p22 := eq_true p22
  replace q22 := eq_true q22
  have HP25 := Kd.R_putg HO_3.out ((rd ((qA3 l0 x20_1).f1) x34_2) : Int) (wrap64 ((rd x3_2 (rd ((qA3 l0 x20_1).f1) x34_2)) + 1))
  go_wp2_with (((with_reducible refine qC8 (t := 3) (p := 43) rfl ?_); refine qDT (t := 3) (p := 43) (v := ?vo_w26) (w1 := (wr.setCell ⟨go22, ((rd ((qA3 l0 x20_1).f1) x34_2) : Int).toNat, none⟩ (.int .i64 (wrap64 ((rd x3_2 (rd ((qA3 l0 x20_1).f1) x34_2)) + 1))))) ?hg ?ho ?hn ?hr ?_; (case ho => rfl); (case hg => rfl); (case hn => rfl); (case hr => first | (go_simp; done) | (go_simp; rfl)); intro w26 hw; have hg : wr.grownBy w26 (some go22) := (by rw [hw]; exact HP25.2); have hp_ : Kd.R (Kd.int .i64) 3 w26 w.heap.size (fun _ => True) (.slice (some ⟨go22, 0, none⟩) x3_2.length co24) y165 := (by rw [hw, Ny165.out]; exact HP25.1); clear HP25; replace BK161 := zq (qAF (g := gb161) (o := .cells #[.int .i64 ((qA3 l0 x20_1).f0), .slice (some ad163) ((qA3 l0 x20_1).f1).length c160_1, .int .i64 ((qA3 l0 x20_1).f2), .int .i64 ((qA3 l0 x20_1).f3), .string ((qA3 l0 x20_1).f4)] 79 (0, 0)) (zk BK161) hg (Kd.R_ne HO_3.out BK161.out (by decide))); replace HO_3 := zq (hp_); replace HB := zq ((by rw [hw]; exact qDW (HB.out) GB22.out : Below w.heap.size w w26)); clear hg hw hp_; have p166 : 0 ≤ ((rd ((qA3 l0 x20_1).f1) x34_2) : Int) := zd; have q166 : (rd ((qA3 l0 x20_1).f1) x34_2) < (y165.length : Int) := (by have h_ : ((rd ((qA3 l0 x20_1).f1) x34_2) : Int) < ((x3_2.length : Int) : Int) := zd; first | (have e_ := (Kd.qAR HO_3.out).1; omega) | simpa only [Ny165.out, List.length_set] using h_); have ql166 : (((rd ((qA3 l0 x20_1).f1) x34_2) : Int) < ((x3_2.length : Int) : Int)) = True := eq_true (zd); obtain ⟨ad166, e166, hx166_0⟩ := Kd.qCB (Kd.qAR HO_3.out).2.2 (rd ((qA3 l0 x20_1).f1) x34_2) p166 q166; obtain rfl : (⟨go22, 0, none⟩ : Addr) = ad166 := (by injection e166); (first | simp only [add_plain] at hx166_0 | simp only [add_at] at hx166_0 | simp only [Addr.add, Nat.zero_add] at hx166_0 | skip); replace p166 := eq_true p166; replace q166 := eq_true q166))
  go_ret
  exact ⟨zf, zb⟩
 have H' := zq H
 clear H
 obtain ⟨p163, q163, ad163, e163, hx163_0⟩ := yp (Kd.qCB HR160_1.out x34_2)
 cases e163
 (try replace hx163_0 := zh hx163_0)
 obtain ⟨Ao27, co27, eo27⟩ := Kd.qBX HO_3.out
 subst eo27
 obtain ⟨p164, q164, ad164, e164, hx164_0⟩ := yp (Kd.qCB (Kd.qAR HO_3.out).2.2 (rd ((qA3 l0 x20_1).f1) x34_2))
 cases e164
 have p22 : 0 ≤ ((rd ((qA3 l0 x20_1).f1) x34_2) : Int) := zd
 have q22 : ((rd ((qA3 l0 x20_1).f1) x34_2) : Int) < ((x3_2.length : Int) : Int) := zd
 obtain ⟨go22, co22, eo22, gb22, gl22, cl22, HG22⟩ := Kd.R_form HO_3.out (by omega)
 (first | cases eo22 | (injection eo22 with ea_ en_ ec_; (first | subst ea_ | (injection ea_ with ea_; subst ea_)); subst ec_; clear en_))
 have GB22 := zq gb22
 have GG22 := zq HG22
 clear gb22 gl22 HG22
 (first | simp only [add_plain] at hx164_0 | skip)
 obtain ⟨hx22_0, hf22_0⟩ := Kd.R_celln 0 HO_3.out ((rd ((qA3 l0 x20_1).f1) x34_2) : Int) p22 q22
 replace p22 := eq_true p22
 replace q22 := eq_true q22
 have HP28 := Kd.R_putg HO_3.out ((rd ((qA3 l0 x20_1).f1) x34_2) : Int) (wrap64 ((rd x3_2 (rd ((qA3 l0 x20_1).f1) x34_2)) + 1))
 go_wp2_with (((with_reducible refine qC8 (t := 3) (p := 43) rfl ?_); refine qDT (t := 3) (p := 43) (v := ?vo_w29) (w1 := (wr.setCell ⟨go22, ((rd ((qA3 l0 x20_1).f1) x34_2) : Int).toNat, none⟩ (.int .i64 (wrap64 ((rd x3_2 (rd ((qA3 l0 x20_1).f1) x34_2)) + 1))))) ?hg ?ho ?hn ?hr ?_; (case ho => rfl); (case hg => rfl); (case hn => rfl); (case hr => first | (go_simp; done) | (go_simp; rfl)); intro w29 hw; have hg : wr.grownBy w29 (some go22) := (by rw [hw]; exact HP28.2); have hp_ : Kd.R (Kd.int .i64) 3 w29 w.heap.size (fun _ => True) (.slice (some ⟨go22, 0, none⟩) x3_2.length co27) y165 := (by rw [hw, Ny165.out]; exact HP28.1); clear HP28; replace BK161 := zq (qAF (g := gb161) (o := .cells #[.int .i64 ((qA3 l0 x20_1).f0), .slice (some ad163) ((qA3 l0 x20_1).f1).length c160_1, .int .i64 ((qA3 l0 x20_1).f2), .int .i64 ((qA3 l0 x20_1).f3), .string ((qA3 l0 x20_1).f4)] 79 (0, 0)) (zk BK161) hg (Kd.R_ne HO_3.out BK161.out (by decide))); replace HO_3 := zq (hp_); replace HB := zq ((by rw [hw]; exact qDW (HB.out) GB22.out : Below w.heap.size w w29)); clear hg hw hp_; have p166 : 0 ≤ ((rd ((qA3 l0 x20_1).f1) x34_2) : Int) := zd; have q166 : (rd ((qA3 l0 x20_1).f1) x34_2) < (y165.length : Int) := (by have h_ : ((rd ((qA3 l0 x20_1).f1) x34_2) : Int) < ((x3_2.length : Int) : Int) := zd; first | (have e_ := (Kd.qAR HO_3.out).1; omega) | simpa only [Ny165.out, List.length_set] using h_); have ql166 : (((rd ((qA3 l0 x20_1).f1) x34_2) : Int) < ((x3_2.length : Int) : Int)) = True := eq_true (zd); obtain ⟨ad166, e166, hx166_0⟩ := Kd.qCB (Kd.qAR HO_3.out).2.2 (rd ((qA3 l0 x20_1).f1) x34_2) p166 q166; obtain rfl : (⟨go22, 0, none⟩ : Addr) = ad166 := (by injection e166); (first | simp only [add_plain] at hx166_0 | simp only [add_at] at hx166_0 | simp only [Addr.add, Nat.zero_add] at hx166_0 | skip); replace p166 := eq_true p166; replace q166 := eq_true q166))
 go_roundg k2
 case measure => have := HK1.out; have := HK2.out; omega
 case rel => exact ⟨(y165), (wrap64 (x34_2 + 1)), zs, H', ⟨by have := HK1.out; have := HK2.out; omega⟩, zR HO_3, ⟨zk BK161⟩, ⟨zb⟩⟩
def qC7.f (a0 : Int) : Option (Bool) := if a0 > 0 then (some (decide (a0 ≤ 6))) else (some false)
theorem qC7.calls (a0 : Int) (r : Bool) (w : World) (h : qC7.f a0 = some r) :
  Calls Tryz.prog 71 #[.int .i64 a0] w fun e w' => e = .returned (.bool r) ∧ qB8 w w' := by
 have H := h
 unfold qC7.f at H
 clear h
 obtain ⟨-, c2b0, H⟩ | ⟨-, c2b0, H⟩ := y3 H
 rotate_left
 ·obtain rfl := zy H
  go_enter Tryz.func71, Tryz.ntmps71
  go_wp2
  go_ret
  exact ⟨zs, zD⟩
 obtain rfl := zy H
 go_enter Tryz.func71, Tryz.ntmps71
 go_wp2
 go_ret
 exact ⟨zs, zD⟩
mutual
def qAV.l0 : Nat → ByteArray → List (S49) → Int → Int → Option (Int × Bool)
 | 0, _, _, _, _ => none
 | k + 1, x1, x10, x11, x12 => if x12 < x11 then (if 0 ≤ x12 then (if x12 < (x10.length : Int) then (qAV.l1 k x1 x10 x11 x12 ((qA4 x10 x12).f3) (((qA4 x10 x12).f3).length : Int) 0) else (none)) else (none)) else (some (0, false))
def qAV.l1 : Nat → ByteArray → List (S49) → Int → Int → List (S98) → Int → Int → Option (Int × Bool)
 | 0, _, _, _, _, _, _, _ => none
 | k + 1, x1, x10, x11, x12, x17, x18, x19 => if x19 < x18 then (if 0 ≤ x19 then (if x19 < (x17.length : Int) then (if ((qC4 x17 x19).f0).toList = x1.toList then (some ((qC4 x17 x19).f1, true)) else (qAV.l1 k x1 x10 x11 x12 x17 x18 (wrap64 (x19 + 1)))) else (none)) else (none)) else (qAV.l0 k x1 x10 x11 (wrap64 (x12 + 1)))
end
def qAV.f (k : Nat) (l0 : List (S49)) (a1 : ByteArray) : Option (Int × Bool) := qAV.l0 k a1 l0 (l0.length : Int) 0
theorem qAV.qBT : ∀ k, (∀ y0 y1 y2 y3, LeO (qAV.l0 k y0 y1 y2 y3) (qAV.l0 (k + 1) y0 y1 y2 y3)) ∧ (∀ y0 y1 y2 y3 y4 y5 y6, LeO (qAV.l1 k y0 y1 y2 y3 y4 y5 y6) (qAV.l1 (k + 1) y0 y1 y2 y3 y4 y5 y6))
 | 0 => ⟨fun _ _ _ _ r h => by simp [qAV.l0] at h, fun _ _ _ _ _ _ _ r h => by simp [qAV.l1] at h⟩
 | k + 1 => by
  obtain ⟨ih0, ih1⟩ := qAV.qBT k
  refine ⟨?_, ?_⟩
  ·intro y0 y1 y2 y3
   unfold qAV.l0
   exact zm
  ·intro y0 y1 y2 y3 y4 y5 y6
   unfold qAV.l1
   exact zm
theorem qAV.mono : ∀ a0 a1 k, LeO (qAV.f k a0 a1) (qAV.f (k + 1) a0 a1) := by
 intro a0 a1 k
 obtain ⟨ih0, ih1⟩ := qAV.qBT k
 unfold qAV.f
 exact zm
theorem qAV.calls (k : Nat) (A0 : Option Addr) (c0 : Nat) (l0 : List (S49)) (a1 : ByteArray) (r1 : Int) (r2 : Bool) (w : World) (hr0 : Kd.C k49 w A0 l0.length l0) (hc0 : l0.length ≤ c0) (h : qAV.f k l0 a1 = some (r1, r2)) :
  Calls Tryz.prog 91 #[.slice A0 l0.length c0, .string a1] w fun e w' => e = .returned (.tuple #[.int .i64 r1, .bool r2]) ∧ Below w.heap.size w w' := by
 have hu49 := Tryz.underlying49
 have hu98 := Tryz.underlying98
 have HR0 := zq hr0
 have HC0 := zq hc0
 clear hr0 hc0
 have HB := zq (Below.refl w.heap.size w)
 have H := h
 unfold qAV.f at H
 clear h
 have H' := zq H
 clear H
 go_enter Tryz.func91, Tryz.ntmps91
 go_wp2
 go_loopg [12] k (fun kq v12 w' => ∃ (x12_1 : Int), v12 = .int .i64 x12_1 ∧ qA0 (qAV.l0 kq a1 l0 (l0.length : Int) x12_1 = some (r1, r2)) ∧ qA0 (kq ≤ k) ∧ qA0 (Below w.heap.size w w'))
 case atStart => exact ⟨(0), zs, H', ⟨Nat.le_refl _⟩, ⟨zb⟩⟩
 clear H'
 obtain ⟨x12_1, rfl, HA, HK1, HB⟩ := hrel
 obtain _ | k1 := gk
 ·exact absurd HA.out (by simp [qAV.l0])
 have H := HA.out
 clear HA
 simp only [qAV.l0] at H
 obtain ⟨-, c3b0, H⟩ | ⟨-, c3b0, H⟩ := y3 H
 rotate_left
 ·simp only [Option.some.injEq, Prod.mk.injEq] at H
  obtain ⟨rfl, rfl⟩ := H
  go_wp2
  go_ret2
  exact ⟨zf, zb⟩
 obtain ⟨-, c4b0, H⟩ := y1 H
 obtain ⟨-, c5b0, H⟩ := y1 H
 have H' := zq H
 clear H
 obtain ⟨p167, q167, ad167, A167_3, c167_3, A167_4, c167_4, A167_5, c167_5, e167, hx167_0, hx167_1, hx167_2, hx167_3, hx167_4, hx167_5, hl167_3, hi167_3, hl167_4, hi167_4, hl167_5, hi167_5⟩ := yp (qEY HR0.out x12_1)
 cases e167
 (try replace hx167_0 := zh hx167_0)
 replace hx167_1 := zh hx167_1
 replace hx167_2 := zh hx167_2
 replace hx167_3 := zh hx167_3
 replace hx167_4 := zh hx167_4
 replace hx167_5 := zh hx167_5
 have HR167_3 := zq hi167_3
 have HC167_3 := zq hl167_3
 clear hi167_3 hl167_3
 have HR167_4 := zq hi167_4
 have HC167_4 := zq hl167_4
 clear hi167_4 hl167_4
 have HR167_5 := zq hi167_5
 have HC167_5 := zq hl167_5
 clear hi167_5 hl167_5
 go_wp2_with ((refine boxY 7 #[.string (⟨#[]⟩ : ByteArray), .int .i64 0, .int .i64 0, .slice none 0 0, .slice none 0 0, .slice none 0 0] 49 ?_; intro gb168 hg w6 BK168 hb; have GW168 := zg w gb168; replace HB := zB hb; clear hb hg; have hcz7 := bc6 BK168.out))
 go_loopg [19] k1 (fun kq v19 w' => ∃ (x19_2 : Int), v19 = .int .i64 x19_2 ∧ qA0 (qAV.l1 kq a1 l0 (l0.length : Int) x12_1 ((qA4 l0 x12_1).f3) (((qA4 l0 x12_1).f3).length : Int) x19_2 = some (r1, r2)) ∧ qA0 (kq ≤ k1) ∧ qA0 (w'.heap[gb168]? = some (.cells #[.string ((qA4 l0 x12_1).f0), .int .i64 ((qA4 l0 x12_1).f1), .int .i64 ((qA4 l0 x12_1).f2), (.slice A167_3 ((qA4 l0 x12_1).f3).length c167_3), (.slice A167_4 ((qA4 l0 x12_1).f4).length c167_4), (.slice A167_5 ((qA4 l0 x12_1).f5).length c167_5)] 49 (0, 0))) ∧ qA0 (Below w.heap.size w w'))
 case atStart => exact ⟨(0), zs, H', ⟨Nat.le_refl _⟩, ⟨zp6 BK168⟩, ⟨zb⟩⟩
 clear H' c3b0 c4b0 c5b0 hcz7 hx167_0 hx167_1 hx167_2 hx167_3 hx167_4 hx167_5 p167 q167
 obtain ⟨x19_2, rfl, HA, HK2, BK168, HB⟩ := hrel
 obtain _ | k2 := gk
 ·exact absurd HA.out (by simp [qAV.l1])
 have H := HA.out
 clear HA
 simp only [qAV.l1] at H
 obtain ⟨-, c8b0, H⟩ | ⟨-, c8b0, H⟩ := y3 H
 rotate_left
 ·have H' := zq H
  clear H
  go_wp2
  go_roundg k2
  case measure => have := HK1.out; have := HK2.out; omega
  case rel => exact ⟨(wrap64 (x12_1 + 1)), zs, H', ⟨by have := HK1.out; have := HK2.out; omega⟩, ⟨zb⟩⟩
 obtain ⟨-, c9b0, H⟩ := y1 H
 obtain ⟨-, c10b0, H⟩ := y1 H
 obtain ⟨-, c11b0, c11b1, H⟩ | ⟨c11, c11b0, c11b1, H⟩ := y4 H
 rotate_left
 ·have H' := zq H
  clear H
  obtain ⟨p169, q169, ad169, e169, hx169_0, hx169_1, hx169_2, hx169_3, hx169_4, hx169_5, hx169_6⟩ := yp (at_T98 HR167_3.out x19_2)
  cases e169
  (try replace hx169_0 := zh hx169_0)
  replace hx169_1 := zh hx169_1
  replace hx169_2 := zh hx169_2
  replace hx169_3 := zh hx169_3
  replace hx169_4 := zh hx169_4
  replace hx169_5 := zh hx169_5
  replace hx169_6 := zh hx169_6
  go_wp2_with ((refine boxY 9 #[.string (⟨#[]⟩ : ByteArray), .int .i64 0, .bool false, .int .i64 0, .int .i64 0, .int .i64 0, .int .i64 0] 98 ?_; intro gb170 hg w15 BK170 hb; have GW170 := zg w gb170; have NB168_170 := zl BK168 gb170; have NB170_168 := zu BK168 gb170; replace BK168 := zK BK168 hb; replace HB := zB hb; clear hb hg; have hnb16 := NB170_168.out; have hnc16 := NB168_170.out; have hcz17 := bc7 BK170.out))
  go_roundg k2
  case measure => have := HK1.out; have := HK2.out; omega
  case rel => exact ⟨(wrap64 (x19_2 + 1)), zs, H', ⟨by have := HK1.out; have := HK2.out; omega⟩, ⟨by refine zf7 ?_ NB168_170; (with_reducible repeat refine st ?_); exact BK168.out⟩, ⟨zb⟩⟩
 simp only [Option.some.injEq, Prod.mk.injEq] at H
 obtain ⟨rfl, rfl⟩ := H
 obtain ⟨p169, q169, ad169, e169, hx169_0, hx169_1, hx169_2, hx169_3, hx169_4, hx169_5, hx169_6⟩ := yp (at_T98 HR167_3.out x19_2)
 cases e169
 (try replace hx169_0 := zh hx169_0)
 replace hx169_1 := zh hx169_1
 replace hx169_2 := zh hx169_2
 replace hx169_3 := zh hx169_3
 replace hx169_4 := zh hx169_4
 replace hx169_5 := zh hx169_5
 replace hx169_6 := zh hx169_6
 go_wp2_with ((refine boxY 9 #[.string (⟨#[]⟩ : ByteArray), .int .i64 0, .bool false, .int .i64 0, .int .i64 0, .int .i64 0, .int .i64 0] 98 ?_; intro gb170 hg w12 BK170 hb; have GW170 := zg w gb170; have NB168_170 := zl BK168 gb170; have NB170_168 := zu BK168 gb170; replace BK168 := zK BK168 hb; replace HB := zB hb; clear hb hg; have hnb13 := NB170_168.out; have hnc13 := NB168_170.out; have hcz14 := bc7 BK170.out))
 go_ret2
 exact ⟨zf, zb⟩
mutual
def qAJ.j0 : Nat → Int → Bool → Int → List Int → Int → Int → ByteArray → Option (Int × Int)
 | 0, _, _, _, _, _, _, _ => none
 | k + 1, x6, x18, x172000, x172001, x172002, x172003, x172004 => if x18 = true then (some (x6, 0)) else (if x172000 = 3 then (qAJ.j1 k x6 (x6 == 1) x172000 x172001 x172002 x172003 x172004) else (qAJ.j1 k x6 false x172000 x172001 x172002 x172003 x172004))
def qAJ.j1 : Nat → Int → Bool → Int → List Int → Int → Int → ByteArray → Option (Int × Int)
 | 0, _, _, _, _, _, _, _ => none
 | k + 1, x6, x27, x172000, x172001, x172002, x172003, x172004 => if x27 = true then (some (5, 0)) else (if x172000 = 2 then (if x6 = 2 then (some (x6, 0)) else (if x6 = 3 then (some (x6, 0)) else (if x6 = 5 then (some (x6, 0)) else (if x6 = 6 then (some (x6, 0)) else (some (0, 8)))))) else (some (0, 8)))
end
def qAJ.f (k : Nat) (l0 : List (S49)) (a1_0 : Int) (l1_1 : List Int) (a1_2 : Int) (a1_3 : Int) (a1_4 : ByteArray) : Option (Int × Int) := (qAV.f k l0 a1_4).bind fun bt172 => (if bt172.2 = true then (if a1_0 = 1 then ((qC7.f bt172.1).bind fun t174 => (qAJ.j0 k bt172.1 t174 a1_0 l1_1 a1_2 a1_3 a1_4)) else (qAJ.j0 k bt172.1 false a1_0 l1_1 a1_2 a1_3 a1_4)) else (some (0, 15)))
theorem qAJ.qBT : ∀ k, (∀ y0 y1 y2 y3 y4 y5 y6, LeO (qAJ.j0 k y0 y1 y2 y3 y4 y5 y6) (qAJ.j0 (k + 1) y0 y1 y2 y3 y4 y5 y6)) ∧ (∀ y0 y1 y2 y3 y4 y5 y6, LeO (qAJ.j1 k y0 y1 y2 y3 y4 y5 y6) (qAJ.j1 (k + 1) y0 y1 y2 y3 y4 y5 y6))
 | 0 => ⟨fun _ _ _ _ _ _ _ r h => by simp [qAJ.j0] at h, fun _ _ _ _ _ _ _ r h => by simp [qAJ.j1] at h⟩
 | k + 1 => by
  obtain ⟨ih0, ih1⟩ := qAJ.qBT k
  refine ⟨?_, ?_⟩
  ·intro y0 y1 y2 y3 y4 y5 y6
   unfold qAJ.j0
   have im0 := @qAV.mono
   exact zm
  ·intro y0 y1 y2 y3 y4 y5 y6
   unfold qAJ.j1
   have im0 := @qAV.mono
   exact zm
theorem qAJ.mono : ∀ a0 a1 a2 a3 a4 a5 k, LeO (qAJ.f k a0 a1 a2 a3 a4 a5) (qAJ.f (k + 1) a0 a1 a2 a3 a4 a5) := by
 intro a0 a1 a2 a3 a4 a5 k
 obtain ⟨ih0, ih1⟩ := qAJ.qBT k
 unfold qAJ.f
 have im0 := @qAV.mono
 exact zm
theorem qAJ.calls (k : Nat) (A0 : Option Addr) (c0 : Nat) (l0 : List (S49)) (a1_0 : Int) (A1_1 : Option Addr) (c1_1 : Nat) (l1_1 : List Int) (a1_2 : Int) (a1_3 : Int) (a1_4 : ByteArray) (r1 : Int) (r2 : Int) (w : World) (hr0 : Kd.C k49 w A0 l0.length l0) (hc0 : l0.length ≤ c0) (hr1_1 : Kd.C (Kd.int .i64) w A1_1 l1_1.length l1_1) (hc1_1 : l1_1.length ≤ c1_1) (h : qAJ.f k l0 a1_0 l1_1 a1_2 a1_3 a1_4 = some (r1, r2)) :
  Calls Tryz.prog 68 #[.slice A0 l0.length c0, .agg #[.int .i64 a1_0, .slice A1_1 l1_1.length c1_1, .int .i64 a1_2, .int .i64 a1_3, .string a1_4]] w fun e w' => e = .returned (.tuple #[.int .i64 r1, .int .i64 r2]) ∧ Below w.heap.size w w' := by
 have hu79 := Tryz.underlying79
 have HR0 := zq hr0
 have HC0 := zq hc0
 clear hr0 hc0
 have HR1_1 := zq hr1_1
 have HC1_1 := zq hc1_1
 clear hr1_1 hc1_1
 have HB := zq (Below.refl w.heap.size w)
 have H := h
 unfold qAJ.f at H
 clear h
 replace H := zi H
 obtain ⟨⟨t172, t173⟩, A30, H⟩ := H
 dsimp only at H
 have A3 := zq A30
 clear A30
 by_cases c4 : t173 = true
 rotate_left
 ·replace c4 := Bool.eq_false_iff.mpr c4
  subst c4
  rw [zj] at H
  simp only [Option.some.injEq, Prod.mk.injEq] at H
  obtain ⟨rfl, rfl⟩ := H
  go_enter Tryz.func68, Tryz.ntmps68
  go_wp2_with (first | (refine boxY 3 #[.int .i64 a1_0, .slice A1_1 l1_1.length c1_1, .int .i64 a1_2, .int .i64 a1_3, .string a1_4] 79 ?_; intro gb171 hg w30 BK171 hb; have GW171 := zg w gb171; replace HB := zB hb; clear hb hg; have hcz31 := bc5 BK171.out) | (refine qBY (some 12) Tryz.func91 #[.slice A0 l0.length c0, .string a1_4] ?_; (with_reducible refine (qAV.calls k _ _ l0 a1_4 t172 false _ ?side1 ?side2 A3.out).mono ?_); (case side1 => repeat (first | exact (Kd.qAB HR0.out HB.out) | refine sC ?_)); (case side2 => exact HC0.out); rintro e w32 ⟨rfl, hb⟩; refine ⟨_, rfl, ?_⟩; replace BK171 := zK BK171 hb; replace HB := zB hb; (try clear hb hk); (try clear hb)))
  go_ret2
  exact ⟨zf, zb⟩
 subst c4
 rw [if_pos rfl] at H
 have HC5 := zq H
 clear H
 go_enter Tryz.func68, Tryz.ntmps68
 go_upto_region 4 with (first | (refine boxY 3 #[.int .i64 a1_0, .slice A1_1 l1_1.length c1_1, .int .i64 a1_2, .int .i64 a1_3, .string a1_4] 79 ?_; intro gb171 hg w6 BK171 hb; have GW171 := zg w gb171; replace HB := zB hb; clear hb hg; have hcz7 := bc5 BK171.out) | (refine qBY (some 12) Tryz.func91 #[.slice A0 l0.length c0, .string a1_4] ?_; (with_reducible refine (qAV.calls k _ _ l0 a1_4 t172 true _ ?side1 ?side2 A3.out).mono ?_); (case side1 => repeat (first | exact (Kd.qAB HR0.out HB.out) | refine sC ?_)); (case side2 => exact HC0.out); rintro e w8 ⟨rfl, hb⟩; refine ⟨_, rfl, ?_⟩; replace BK171 := zK BK171 hb; replace HB := zB hb; (try clear hb hk); (try clear hb)))
 go_cut [18] (fun v18 wc => ∃ (kq : Nat) (x18_4 : Bool), v18 = .bool x18_4 ∧ qA0 (qAJ.j0 kq t172 x18_4 a1_0 l1_1 a1_2 a1_3 a1_4 = some (r1, r2)) ∧ qA0 (kq ≤ k) ∧ qA0 (wc.heap[gb171]? = some (.cells #[.int .i64 a1_0, (.slice A1_1 l1_1.length c1_1), .int .i64 a1_2, .int .i64 a1_3, .string a1_4] 79 (0, 0))) ∧ qA0 (Below w.heap.size w wc))
 case first =>
  have H := HC5.out
  clear HC5
  obtain ⟨-, c9b0, c9b1, H⟩ | ⟨c9, c9b0, c9b1, H⟩ := y4 H
  rotate_left
  ·(first | rw [c9b0] | (simp only [qCI, qCO]; rw [c9b0]) | skip)
   have H' := zq H
   clear H
   have hcz12 := bc5 BK171.out
   go_wp2
   go_meet
   case rel => exact ⟨_, (false), zs, H', ⟨by first | omega | exact Nat.le_refl _⟩, ⟨zk BK171⟩, ⟨zb⟩⟩
  (first | rw [c9b0] | (simp only [qCI, qCO]; rw [c9b0]) | skip)
  replace H := zi H
  obtain ⟨t174, A100, H⟩ := H
  have A10 := zq A100
  clear A100
  have H' := zq H
  clear H
  have hcz11 := bc5 BK171.out
  go_wp2_with ((go_at_call 71; (with_reducible refine (qC7.calls t172 t174 _ A10.out).mono ?_); rintro e w' ⟨rfl, ⟨nd, rfl⟩⟩))
  go_meet
  case rel => exact ⟨_, (t174), zs, H', ⟨by first | omega | exact Nat.le_refl _⟩, ⟨zk BK171⟩, ⟨zb⟩⟩
 clear HC5 hcz7
 obtain ⟨kq, x18_4, rfl, HA, HJ4, BK171, HB⟩ := hcut
 obtain _ | kj4 := kq
 ·exact absurd HA.out (by simp [qAJ.j0])
 have H := HA.out
 clear HA
 simp only [qAJ.j0] at H
 by_cases c13 : x18_4 = true
 ·subst c13
  rw [if_pos rfl] at H
  simp only [Option.some.injEq, Prod.mk.injEq] at H
  obtain ⟨rfl, rfl⟩ := H
  go_wp2
  go_ret2
  exact ⟨zf, zb⟩
 replace c13 := Bool.eq_false_iff.mpr c13
 subst c13
 rw [zj] at H
 have HC14 := zq H
 clear H
 go_upto_region 6 with (fail)
 go_cut [27] (fun v27 wc => ∃ (kq : Nat) (x27_13 : Bool), v27 = .bool x27_13 ∧ qA0 (qAJ.j1 kq t172 x27_13 a1_0 l1_1 a1_2 a1_3 a1_4 = some (r1, r2)) ∧ qA0 (kq ≤ kj4) ∧ qA0 (wc.heap[gb171]? = some (.cells #[.int .i64 a1_0, (.slice A1_1 l1_1.length c1_1), .int .i64 a1_2, .int .i64 a1_3, .string a1_4] 79 (0, 0))) ∧ qA0 (Below w.heap.size w wc))
 case first =>
  have H := HC14.out
  clear HC14
  obtain ⟨-, c15b0, c15b1, H⟩ | ⟨c15, c15b0, c15b1, H⟩ := y4 H
  rotate_left
  ·(first | rw [c15b0] | (simp only [qCI, qCO]; rw [c15b0]) | skip)
   have H' := zq H
   clear H
   have hcz17 := bc5 BK171.out
   go_wp2
   go_meet
   case rel => exact ⟨_, (false), zs, H', ⟨by have := HJ4.out; first | omega | exact Nat.le_refl _⟩, ⟨zk BK171⟩, ⟨zb⟩⟩
  (first | rw [c15b0] | (simp only [qCI, qCO]; rw [c15b0]) | skip)
  have H' := zq H
  clear H
  have hcz16 := bc5 BK171.out
  go_wp2
  go_meet
  case rel => exact ⟨_, ((t172 == 1)), zs, H', ⟨by have := HJ4.out; first | omega | exact Nat.le_refl _⟩, ⟨zk BK171⟩, ⟨zb⟩⟩
 clear HC14
 obtain ⟨kq, x27_13, rfl, HA, HJ13, BK171, HB⟩ := hcut
 obtain _ | kj13 := kq
 ·exact absurd HA.out (by simp [qAJ.j1])
 have H := HA.out
 clear HA
 simp only [qAJ.j1] at H
 by_cases c18 : x27_13 = true
 ·subst c18
  rw [if_pos rfl] at H
  simp only [Option.some.injEq, Prod.mk.injEq] at H
  obtain ⟨rfl, rfl⟩ := H
  go_wp2
  go_ret2
  exact ⟨zf, zb⟩
 replace c18 := Bool.eq_false_iff.mpr c18
 subst c18
 rw [zj] at H
 obtain ⟨-, c19b0, c19b1, H⟩ | ⟨c19, c19b0, c19b1, H⟩ := y4 H
 rotate_left
 ·simp only [Option.some.injEq, Prod.mk.injEq] at H
  obtain ⟨rfl, rfl⟩ := H
  have hcz29 := bc5 BK171.out
  go_wp2
  go_ret2
  exact ⟨zf, zb⟩
 obtain ⟨-, c20b0, c20b1, H⟩ | ⟨c20, c20b0, c20b1, H⟩ := y4 H
 ·simp only [Option.some.injEq, Prod.mk.injEq] at H
  obtain ⟨rfl, rfl⟩ := H
  have hcz21 := bc5 BK171.out
  go_wp2
  go_ret2
  exact ⟨zf, zb⟩
 obtain ⟨-, c22b0, c22b1, H⟩ | ⟨c22, c22b0, c22b1, H⟩ := y4 H
 ·simp only [Option.some.injEq, Prod.mk.injEq] at H
  obtain ⟨rfl, rfl⟩ := H
  have hcz23 := bc5 BK171.out
  go_wp2
  go_ret2
  exact ⟨zf, zb⟩
 obtain ⟨-, c24b0, c24b1, H⟩ | ⟨c24, c24b0, c24b1, H⟩ := y4 H
 ·simp only [Option.some.injEq, Prod.mk.injEq] at H
  obtain ⟨rfl, rfl⟩ := H
  have hcz25 := bc5 BK171.out
  go_wp2
  go_ret2
  exact ⟨zf, zb⟩
 obtain ⟨-, c26b0, c26b1, H⟩ | ⟨c26, c26b0, c26b1, H⟩ := y4 H
 rotate_left
 ·simp only [Option.some.injEq, Prod.mk.injEq] at H
  obtain ⟨rfl, rfl⟩ := H
  have hcz28 := bc5 BK171.out
  go_wp2
  go_ret2
  exact ⟨zf, zb⟩
 simp only [Option.some.injEq, Prod.mk.injEq] at H
 obtain ⟨rfl, rfl⟩ := H
 have hcz27 := bc5 BK171.out
 go_wp2
 go_ret2
 exact ⟨zf, zb⟩
def qBD.l0 : Nat → ByteArray → List (S73) → Int → Int → Option (ByteArray × Int × Int × Bool × (List (S75)) × Bool)
 | 0, _, _, _, _ => none
 | k + 1, x1, x8, x9, x10 => if x10 < x9 then (if 0 ≤ x10 then (if x10 < (x8.length : Int) then (if ((qAK x8 x10).f0).toList = x1.toList then (some ((qAK x8 x10).f0, (qAK x8 x10).f1, (qAK x8 x10).f2, (qAK x8 x10).f3, (qAK x8 x10).f4, true)) else (qBD.l0 k x1 x8 x9 (wrap64 (x10 + 1)))) else (none)) else (none)) else (some ((⟨#[]⟩ : ByteArray), 0, 0, false, ([] : List (S75)), false))
def qBD.f (k : Nat) (l0 : List (S73)) (a1 : ByteArray) : Option (ByteArray × Int × Int × Bool × (List (S75)) × Bool) := qBD.l0 k a1 l0 (l0.length : Int) 0
theorem qBD.qBT : ∀ k, (∀ y0 y1 y2 y3, LeO (qBD.l0 k y0 y1 y2 y3) (qBD.l0 (k + 1) y0 y1 y2 y3))
 | 0 => fun _ _ _ _ r h => by simp [qBD.l0] at h
 | k + 1 => by
  have ih0 := qBD.qBT k
  ·intro y0 y1 y2 y3
   unfold qBD.l0
   exact zm
theorem qBD.mono : ∀ a0 a1 k, LeO (qBD.f k a0 a1) (qBD.f (k + 1) a0 a1) := by
 intro a0 a1 k
 have ih0 := qBD.qBT k
 unfold qBD.f
 exact zm
theorem qBD.calls (k : Nat) (P0_ : Nat → Prop) (A0 : Option Addr) (c0 : Nat) (l0 : List (S73)) (a1 : ByteArray) (r1 : ByteArray) (r2 : Int) (r3 : Int) (r4 : Bool) (r5 : List (S75)) (r6 : Bool) (w : World) (hs0 : Kd.V k73 73 w w.heap.size (fun k_ => P0_ k_) (.slice A0 l0.length c0) l0) (h : qBD.f k l0 a1 = some (r1, r2, r3, r4, r5, r6)) :
  Calls Tryz.prog 69 #[.slice A0 l0.length c0, .string a1] w fun e w' => ∃ v4_ : Value, e = .returned (.tuple #[.agg #[.string r1, .int .i64 r2, .int .i64 r3, .bool r4, v4_], .bool r6]) ∧ Kd.V k75 75 w' w.heap.size (fun k_ => (P0_ k_ ∨ w.heap.size ≤ k_)) v4_ r5 ∧ Below w.heap.size w w' := by
 have hu73 := Tryz.underlying73
 have HO0 := zq (show Kd.V k73 73 w w.heap.size (fun k_ => (P0_ k_ ∨ w.heap.size ≤ k_)) (.slice A0 l0.length c0) l0 from Kd.qFU hs0 (fun k_ hk => .inl hk))
 have HB := zq (Below.refl w.heap.size w)
 have H := h
 unfold qBD.f at H
 clear h
 have H' := zq H
 clear H
 go_enter Tryz.func69, Tryz.ntmps69
 go_wp2_with ((refine boxY 4 #[.string (⟨#[]⟩ : ByteArray), .int .i64 0, .int .i64 0, .bool false, .slice none 0 0] 73 ?_; intro gb175 hg w3 BK175 hb; have GW175 := zg w gb175; replace HO0 := zq (Kd.V_below (Kd.V_elderB (by (with_reducible repeat (first | apply Kd.V_alloc | apply Kd.qEN | apply Kd.V_drew)); exact HO0.out) gb175 (Nat.le_of_eq hg.symm)) hb); replace HB := zB hb; clear hb hg))
 go_loopg [10] k (fun kq v10 w' => ∃ (x10_1 : Int) (x176000_1 : ByteArray) (x176001_1 : Int) (x176002_1 : Int) (x176003_1 : Bool), v10 = .int .i64 x10_1 ∧ qA0 (qBD.l0 kq a1 l0 (l0.length : Int) x10_1 = some (r1, r2, r3, r4, r5, r6)) ∧ qA0 (kq ≤ k) ∧ qA0 (Kd.V k73 73 w' w.heap.size (fun k_ => (P0_ k_ ∨ w.heap.size ≤ k_) ∧ k_ ≠ gb175) (.slice A0 l0.length c0) l0) ∧ qA0 (w'.heap[gb175]? = some (.cells #[.string x176000_1, .int .i64 x176001_1, .int .i64 x176002_1, .bool x176003_1, (.slice none 0 0)] 73 (0, 0))) ∧ qA0 (Below w.heap.size w w'))
 case atStart => exact ⟨(0), ((⟨#[]⟩ : ByteArray)), (0), (0), (false), zs, H', ⟨Nat.le_refl _⟩, ⟨by (with_reducible repeat (first | apply Kd.V_alloc | apply Kd.qEN | apply Kd.V_drew)); exact HO0.out⟩, ⟨zk BK175⟩, ⟨zb⟩⟩
 clear H'
 obtain ⟨x10_1, x176000_1, x176001_1, x176002_1, x176003_1, rfl, HA, HK1, HO_8, BK175, HB⟩ := hrel
 obtain _ | k1 := gk
 ·exact absurd HA.out (by simp [qBD.l0])
 have H := HA.out
 clear HA
 simp only [qBD.l0] at H
 obtain ⟨-, c4b0, H⟩ | ⟨-, c4b0, H⟩ := y3 H
 rotate_left
 ·simp only [Option.some.injEq, Prod.mk.injEq] at H
  obtain ⟨rfl, rfl, rfl, rfl, rfl, rfl⟩ := H
  have hcz15 := bc5 BK175.out
  go_wp2
  refine bodyPost_ret (qF2 rfl _ _ gb175 73 #[.string (⟨#[]⟩ : ByteArray), .int .i64 0, .int .i64 0, .bool false, .slice none 0 0] (0, 0) _ rfl (zp5 BK175) Tryz.underlying73 rfl (by kernel_rfl)) rfl ?_
  exact ⟨_, zf, (Kd.V_nil _ _ _ _ _), zb⟩
 obtain ⟨-, c5b0, H⟩ := y1 H
 obtain ⟨-, c6b0, H⟩ := y1 H
 obtain ⟨-, c7b0, c7b1, H⟩ | ⟨c7, c7b0, c7b1, H⟩ := y4 H
 rotate_left
 ·have H' := zq H
  clear H
  have p176 : 0 ≤ (x10_1 : Int) := zd
  have q176 : x10_1 < (l0.length : Int) := zd
  obtain ⟨ad176, A176_4, c176_4, e176, hx176_0, hx176_1, hx176_2, hx176_3, hx176_4, hl176_4, hi176_4⟩ := at_T73 (Kd.qFG HO_8.out).2.2 x10_1 p176 q176
  cases e176
  obtain ⟨ce176, hce176, hMe176, hcc176⟩ := Kd.V_get HO_8.out z73 x10_1 p176 (by first | exact q176 | exact zd | (have e_ := (Kd.qFG HO_8.out).1; omega))
  obtain ⟨ua176_4, uc176_4, rfl, ul176_4, ge176_4⟩ := k73_openF hMe176
  have hv176_4 := hcc176 4 _ rfl
  rw [qBQ _ _ 4 (by omega)] at hv176_4
  replace hv176_4 := zy (hv176_4.symm.trans hx176_4)
  injection hv176_4 with hva_ hvn_ hvc_
  rw [hva_] at ge176_4
  rw [hvc_] at ul176_4
  have HL176_4 := zq (show Kd.V k75 75 _ w.heap.size _ _ ((qAK l0 x10_1).f4) from Kd.V_mk ul176_4 ge176_4)
  clear hva_ hvn_ hvc_ ge176_4 ul176_4 hcc176 hce176
  have HR176_4 := zq hi176_4
  have HC176_4 := zq hl176_4
  clear hi176_4 hl176_4
  replace p176 := eq_true p176
  replace q176 := eq_true q176
  go_wp2_with ((refine boxY 7 #[.string (⟨#[]⟩ : ByteArray), .int .i64 0, .int .i64 0, .bool false, .slice none 0 0] 73 ?_; intro gb177 hg w12 BK177 hb; have GW177 := zg w gb177; have NB175_177 := zl BK175 gb177; have NB177_175 := zu BK175 gb177; replace HO_8 := zq (Kd.V_below (Kd.V_elderB (by (with_reducible repeat (first | apply Kd.V_alloc | apply Kd.qEN | apply Kd.V_drew)); exact HO_8.out) gb177 (Nat.le_of_eq hg.symm)) hb); replace HL176_4 := zq (Kd.V_below (Kd.V_elderB (by (with_reducible repeat (first | apply Kd.V_alloc | apply Kd.qEN | apply Kd.V_drew)); exact HL176_4.out) gb177 (Nat.le_of_eq hg.symm)) hb); replace BK175 := zK BK175 hb; replace HR176_4 := zq (Kd.qAB (by repeat (first | (with_reducible exact HR176_4.out) | (with_reducible refine Kd.C_alloc ?_ _) | (with_reducible refine Kd.C_drewN ?_ _) | (with_reducible refine Kd.C_drew ?_) | exact HR176_4.out)) hb); replace HB := zB hb; clear hb hg; have hnb13 := NB177_175.out; have hnc13 := NB175_177.out; have hcz14 := bc5 BK177.out))
  go_roundg k1
  case measure => have := HK1.out; omega
  case rel => exact ⟨(wrap64 (x10_1 + 1)), (x176000_1), (x176001_1), (x176002_1), (x176003_1), zs, H', ⟨by have := HK1.out; omega⟩, ⟨by (with_reducible repeat (first | apply Kd.V_alloc | apply Kd.qEN | apply Kd.V_drew)); exact Kd.qFU (Kd.qEX (Kd.qEX (Kd.qEX (Kd.qEX (Kd.qEX (Kd.qFU HO_8.out (fun k_ hk => (⟨hk, hk.2⟩ : _ ∧ k_ ≠ gb177))) (fun _ hk => hk.2) _) (fun _ hk => hk.2) _) (fun _ hk => hk.2) _) (fun _ hk => hk.2) _) (fun _ hk => hk.2) _) (fun _ hk => ⟨hk.1.1.1, hk.1.1.2⟩)⟩, ⟨by refine zf5 ?_ NB175_177; (with_reducible repeat refine st ?_); exact BK175.out⟩, ⟨zb⟩⟩
 simp only [Option.some.injEq, Prod.mk.injEq] at H
 obtain ⟨rfl, rfl, rfl, rfl, rfl, rfl⟩ := H
 have p176 : 0 ≤ (x10_1 : Int) := zd
 have q176 : x10_1 < (l0.length : Int) := zd
 obtain ⟨ad176, A176_4, c176_4, e176, hx176_0, hx176_1, hx176_2, hx176_3, hx176_4, hl176_4, hi176_4⟩ := at_T73 (Kd.qFG HO_8.out).2.2 x10_1 p176 q176
 cases e176
 obtain ⟨ce176, hce176, hMe176, hcc176⟩ := Kd.V_get HO_8.out z73 x10_1 p176 (by first | exact q176 | exact zd | (have e_ := (Kd.qFG HO_8.out).1; omega))
 obtain ⟨ua176_4, uc176_4, rfl, ul176_4, ge176_4⟩ := k73_openF hMe176
 have hv176_4 := hcc176 4 _ rfl
 rw [qBQ _ _ 4 (by omega)] at hv176_4
 replace hv176_4 := zy (hv176_4.symm.trans hx176_4)
 injection hv176_4 with hva_ hvn_ hvc_
 rw [hva_] at ge176_4
 rw [hvc_] at ul176_4
 have HL176_4 := zq (show Kd.V k75 75 _ w.heap.size _ _ ((qAK l0 x10_1).f4) from Kd.V_mk ul176_4 ge176_4)
 clear hva_ hvn_ hvc_ ge176_4 ul176_4 hcc176 hce176
 have HR176_4 := zq hi176_4
 have HC176_4 := zq hl176_4
 clear hi176_4 hl176_4
 replace p176 := eq_true p176
 replace q176 := eq_true q176
 go_wp2_with ((refine boxY 7 #[.string (⟨#[]⟩ : ByteArray), .int .i64 0, .int .i64 0, .bool false, .slice none 0 0] 73 ?_; intro gb177 hg w8 BK177 hb; have GW177 := zg w gb177; have NB175_177 := zl BK175 gb177; have NB177_175 := zu BK175 gb177; replace HO_8 := zq (Kd.V_below (Kd.V_elderB (by (with_reducible repeat (first | apply Kd.V_alloc | apply Kd.qEN | apply Kd.V_drew)); exact HO_8.out) gb177 (Nat.le_of_eq hg.symm)) hb); replace HL176_4 := zq (Kd.V_below (Kd.V_elderB (by (with_reducible repeat (first | apply Kd.V_alloc | apply Kd.qEN | apply Kd.V_drew)); exact HL176_4.out) gb177 (Nat.le_of_eq hg.symm)) hb); replace BK175 := zK BK175 hb; replace HR176_4 := zq (Kd.qAB (by repeat (first | (with_reducible exact HR176_4.out) | (with_reducible refine Kd.C_alloc ?_ _) | (with_reducible refine Kd.C_drewN ?_ _) | (with_reducible refine Kd.C_drew ?_) | exact HR176_4.out)) hb); replace HB := zB hb; clear hb hg; have hnb9 := NB177_175.out; have hnc9 := NB175_177.out; have hcz10 := bc5 BK177.out; have hcz11 := bc5 BK175.out))
 refine bodyPost_ret (qF2 rfl _ _ gb175 73 #[.string ((qAK l0 x10_1).f0), .int .i64 ((qAK l0 x10_1).f1), .int .i64 ((qAK l0 x10_1).f2), .bool ((qAK l0 x10_1).f3), .slice A176_4 ((qAK l0 x10_1).f4).length c176_4] (0, 0) _ rfl (by refine zp_ (cs := #[.string ((qAK l0 x10_1).f0), .int .i64 ((qAK l0 x10_1).f1), .int .i64 ((qAK l0 x10_1).f2), .bool ((qAK l0 x10_1).f3), .slice none 0 0]) ?_ 4; refine zp_ (cs := #[.string ((qAK l0 x10_1).f0), .int .i64 ((qAK l0 x10_1).f1), .int .i64 ((qAK l0 x10_1).f2), .bool x176003_1, .slice none 0 0]) ?_ 3; refine zp_ (cs := #[.string ((qAK l0 x10_1).f0), .int .i64 ((qAK l0 x10_1).f1), .int .i64 x176002_1, .bool x176003_1, .slice none 0 0]) ?_ 2; refine zp_ (cs := #[.string ((qAK l0 x10_1).f0), .int .i64 x176001_1, .int .i64 x176002_1, .bool x176003_1, .slice none 0 0]) ?_ 1; refine zp_ (cs := #[.string x176000_1, .int .i64 x176001_1, .int .i64 x176002_1, .bool x176003_1, .slice none 0 0]) ?_ 0; refine zf5 ?_ NB175_177; (with_reducible repeat refine st ?_); exact BK175.out) Tryz.underlying73 rfl (by kernel_rfl)) rfl ?_
 exact ⟨_, zf, by (with_reducible repeat (first | apply Kd.V_alloc | apply Kd.qEN | apply Kd.V_drew)); exact Kd.qFU (Kd.qEX (Kd.qEX (Kd.qEX (Kd.qEX (Kd.qEX (Kd.qEX (Kd.qEX (Kd.qEX (Kd.qEX (Kd.qEX (Kd.qFU (Kd.qFU HL176_4.out (fun k_ hk => (⟨hk, hk.2⟩ : _ ∧ k_ ≠ gb177))) (fun k_ hk => (⟨hk, hk.1.1.2⟩ : _ ∧ k_ ≠ gb175))) (fun _ hk => hk.1.2) _) (fun _ hk => hk.1.2) _) (fun _ hk => hk.1.2) _) (fun _ hk => hk.1.2) _) (fun _ hk => hk.1.2) _) (fun _ hk => hk.2) _) (fun _ hk => hk.2) _) (fun _ hk => hk.2) _) (fun _ hk => hk.2) _) (fun _ hk => hk.2) _) (fun _ hk => hk.1.1.1.1), zb⟩
def NilApp (t : TypeId) (x : Value) (w : World) (Q : Ending → World → Prop) : Prop := ∃ v w1, (Builtin.append_ #[t, t] t #[.slice none 0 0, x]).run Tryz.prog w = .ok v w1 ∧ Q (.returned v) w1
theorem NilApp.mono {t : TypeId} {x : Value} {w : World} {Q Q' : Ending → World → Prop} (h : NilApp t x w Q) (hq : ∀ e w', Q e w' → Q' e w') : NilApp t x w Q' := by
 obtain ⟨v, w1, hr, h⟩ := h
 exact ⟨v, w1, hr, hq _ _ h⟩
theorem nilapp_ {ops : Array Oper} {rest : List Oper} {oi : Oper} {a : Act} {w : World} {Q : Exit → Act → World → Prop} (N : Option Tmp) (hd : oi.dst = N) (hg : oi.guard = none) (t : TypeId) (s x : Operand) (hop : oi.op = .call { callee := .builtin .append, args := #[s, x], argTypes := #[t, t] }) (ht : oi.type = t)
  (hs : a.eval s = .slice none 0 0) (v : Value) (hx : a.eval x = v) (h : NilApp t v w fun e w' => ∃ v, e = .returned v ∧ wpList Tryz.prog ops Q rest (a.put N v) w') : wpList Tryz.prog ops Q (oi :: rest) a w := by
 obtain ⟨v1, w1, hr, v2, e, hK0⟩ := h
 obtain rfl := Ending.returned.inj e
 refine wpList_plain hg fun K hK => ?_
 unfold Oper.wp execOp
 simp only [hop, resolve, invoke, builtin, Sem.run_bind, Sem.run_pure, Result.andThen_ok, List.map_toArray, List.map_cons, List.map_nil, hs, hx, ht, hr]
 subst hd
 exact hK _ _ hK0
def qCT.f (l0 : List S75) : Option (List S75) := if l0.length * 16 ≤ 140737488355328 then some l0 else none
def qCT.enc (x : S75) : List Value := [.int .i64 x.f0, .int .i64 x.f1]
theorem qCT.info : (Tryz.prog.info? 75).map (fun i => (i.zero, i.size, i.bytes)) = some (some (.agg #[.int .i64 0, .int .i64 0]), 2, 16) := by kernel_rfl
theorem qCT.calls (A0 : Option Addr) (c0 : Nat) (l0 : List S75) (r : List S75) (w : World) (hr0 : Kd.C k75 w A0 l0.length l0) (hc0 : l0.length ≤ c0) (h : qCT.f l0 = some r) :
  NilApp 71 (.slice A0 l0.length c0) w fun e w' => ∃ v0_ : Value, e = .returned (v0_) ∧ Kd.R k75 75 w' w.heap.size (fun _ => True) v0_ r ∧ Below w.heap.size w w' := by
 unfold qCT.f at h
 by_cases hsz : l0.length * 16 ≤ 140737488355328
 case neg => rw [if_neg hsz] at h; cases h
 rw [if_pos hsz] at h
 obtain rfl := zy h
 clear h
 obtain ⟨i0, hi, hz0, hz1, hz2⟩ := info_parts qCT.info
 have HO := own_nil w w.heap.size 75 2
 cases A0 with
 | none =>
  have e0 : l0 = [] := by
   rcases Nat.eq_zero_or_pos l0.length with h | h
   ·exact List.length_eq_zero_iff.1 h
   ·obtain ⟨_, h', _⟩ := hr0.2.2 h; cases h'
  subst e0
  refine ⟨.slice none 0 0, w, ?_, _, rfl, Kd.R_nil _ _ _ _ _, Below.refl _ _⟩
  simp [Builtin.append_, run_underlying Tryz.underlying71, sizeOf, typeInfo, hi, Builtin.lenOf, Builtin.firstCells]
 | some ad =>
  have hlen := Gen.flat_len qCT.enc 2 (fun _ => rfl) l0
  obtain ⟨v1, w1, hr, h2, h3, _, h5⟩ := run_append_own_at (P := Tryz.prog) w w.heap.size 71 71 75 i0 (.agg #[.int .i64 0, .int .i64 0]) 2 16 Tryz.underlying71 hi hz0 hz1 hz2 rfl (by decide) (.slice none 0 0) 0 [] HO ad l0.length c0 (l0.flatMap qCT.enc) hlen (Gen.flat_cells qCT.enc 2 (by decide) (fun _ => rfl) (fun p c h => k75_open h) hr0)
   (fun u hu => by obtain ⟨x, _, hx⟩ := List.mem_flatMap.1 hu; simp [qCT.enc] at hx; rcases hx with rfl | rfl <;> rfl) (by simp only [maxLen]; omega) (by rw [Nat.zero_add]; exact hsz) (Nat.le_refl _)
  refine ⟨v1, w1, hr, v1, rfl, ⟨fun _ _ => trivial, _, (by rw [Nat.zero_add, List.nil_append] at h2; exact h2), Gen.flat_reps _ qCT.enc 2 (fun _ => rfl) l0 (fun p => k75_mkM _ _ _ p)⟩, (Below.refl _ w).grown h3 (Nat.le_refl _) (fun k hk => by simp [Value.ownBlock] at hk)⟩
mutual
def qAG.l0 : Nat → List (S73) → List (S49) → Int → Int → Option ((List (S73)))
 | 0, _, _, _, _ => none
 | k + 1, x3, x8, x9, x10 => if x10 < x9 then (if 0 ≤ x10 then (if x10 < (x8.length : Int) then (qAG.l1 k x3 x8 x9 x10 ((qA4 x8 x10).f4) (((qA4 x8 x10).f4).length : Int) 0) else (none)) else (none)) else (some x3)
def qAG.l1 : Nat → List (S73) → List (S49) → Int → Int → List (S73) → Int → Int → Option ((List (S73)))
 | 0, _, _, _, _, _, _, _ => none
 | k + 1, x3, x8, x9, x10, x15, x16, x17 => if x17 < x16 then (if 0 ≤ x17 then (if x17 < (x15.length : Int) then ((qCT.f ((qAK x15 x17).f4)).bind fun t182 => (if x3.length < 2199023255552 then (qAG.l1 k (x3 ++ [(⟨(qAK x15 x17).f0, (qAK x15 x17).f1, (qAK x15 x17).f2, (qAK x15 x17).f3, t182⟩ : S73)]) x8 x9 x10 x15 x16 (wrap64 (x17 + 1))) else (none))) else (none)) else (none)) else (qAG.l0 k x3 x8 x9 (wrap64 (x10 + 1)))
end
def qAG.f (k : Nat) (l0 : List (S49)) : Option ((List (S73))) := qAG.l0 k ([] : List (S73)) l0 (l0.length : Int) 0
theorem qAG.qBT : ∀ k, (∀ y0 y1 y2 y3, LeO (qAG.l0 k y0 y1 y2 y3) (qAG.l0 (k + 1) y0 y1 y2 y3)) ∧ (∀ y0 y1 y2 y3 y4 y5 y6, LeO (qAG.l1 k y0 y1 y2 y3 y4 y5 y6) (qAG.l1 (k + 1) y0 y1 y2 y3 y4 y5 y6))
 | 0 => ⟨fun _ _ _ _ r h => by simp [qAG.l0] at h, fun _ _ _ _ _ _ _ r h => by simp [qAG.l1] at h⟩
 | k + 1 => by
  obtain ⟨ih0, ih1⟩ := qAG.qBT k
  refine ⟨?_, ?_⟩
  ·intro y0 y1 y2 y3
   unfold qAG.l0
   exact zm
  ·intro y0 y1 y2 y3 y4 y5 y6
   unfold qAG.l1
   exact zm
theorem qAG.mono : ∀ a0 k, LeO (qAG.f k a0) (qAG.f (k + 1) a0) := by
 intro a0 k
 obtain ⟨ih0, ih1⟩ := qAG.qBT k
 unfold qAG.f
 exact zm
theorem qAG.calls (k : Nat) (A0 : Option Addr) (c0 : Nat) (l0 : List (S49)) (r : List (S73)) (w : World) (hr0 : Kd.C k49 w A0 l0.length l0) (hc0 : l0.length ≤ c0) (h : qAG.f k l0 = some r) :
  Calls Tryz.prog 70 #[.slice A0 l0.length c0] w fun e w' => ∃ v0_ : Value, e = .returned (v0_) ∧ Kd.S k73 73 w' w.heap.size (fun _ => True) v0_ r ∧ Below w.heap.size w w' := by
 have hu49 := Tryz.underlying49
 have hu73 := Tryz.underlying73
 have HR0 := zq hr0
 have HC0 := zq hc0
 clear hr0 hc0
 have HB := zq (Below.refl w.heap.size w)
 have H := h
 unfold qAG.f at H
 clear h
 have H' := zq H
 clear H
 go_enter Tryz.func70, Tryz.ntmps70
 go_wp2
 go_loopg [3, 10] k (fun kq v3 v10 w' => ∃ (x3_1 : List (S73)) (x10_1 : Int), v10 = .int .i64 x10_1 ∧ qA0 (qAG.l0 kq x3_1 l0 (l0.length : Int) x10_1 = some r) ∧ qA0 (kq ≤ k) ∧ qA0 (Kd.S k73 73 w' w.heap.size (fun _ => True) v3 x3_1) ∧ qA0 (Below w.heap.size w w'))
 case atStart => exact ⟨(([] : List (S73))), (0), zs, H', ⟨Nat.le_refl _⟩, ⟨by first | exact Kd.S_nil _ _ _ _ _ | exact Kd.N_nil _ _ _ _ _ | exact Kd.V_nil _ _ _ _ _ | exact Kd.Q_nil _ _ _ _ _ | exact Kd.R_nil _ _ _ _ _⟩, ⟨zb⟩⟩
 clear H'
 obtain ⟨x3_1, x10_1, rfl, HA, HK1, HO_3, HB⟩ := hrel
 obtain _ | k1 := gk
 ·exact absurd HA.out (by simp [qAG.l0])
 have H := HA.out
 clear HA
 simp only [qAG.l0] at H
 obtain ⟨-, c2b0, H⟩ | ⟨-, c2b0, H⟩ := y3 H
 rotate_left
 ·obtain rfl := zy H
  go_wp2
  go_ret
  exact ⟨_, zf, by (with_reducible repeat refine sS ?_); exact HO_3.out, zb⟩
 obtain ⟨-, c3b0, H⟩ := y1 H
 obtain ⟨-, c4b0, H⟩ := y1 H
 have H' := zq H
 clear H
 obtain ⟨p178, q178, ad178, A178_3, c178_3, A178_4, c178_4, A178_5, c178_5, e178, hx178_0, hx178_1, hx178_2, hx178_3, hx178_4, hx178_5, hl178_3, hi178_3, hl178_4, hi178_4, hl178_5, hi178_5⟩ := yp (qEY HR0.out x10_1)
 cases e178
 (try replace hx178_0 := zh hx178_0)
 replace hx178_1 := zh hx178_1
 replace hx178_2 := zh hx178_2
 replace hx178_3 := zh hx178_3
 replace hx178_4 := zh hx178_4
 replace hx178_5 := zh hx178_5
 have HR178_3 := zq hi178_3
 have HC178_3 := zq hl178_3
 clear hi178_3 hl178_3
 have HR178_4 := zq hi178_4
 have HC178_4 := zq hl178_4
 clear hi178_4 hl178_4
 have HR178_5 := zq hi178_5
 have HC178_5 := zq hl178_5
 clear hi178_5 hl178_5
 go_wp2_with ((refine boxY 5 #[.string (⟨#[]⟩ : ByteArray), .int .i64 0, .int .i64 0, .slice none 0 0, .slice none 0 0, .slice none 0 0] 49 ?_; intro gb179 hg w5 BK179 hb; have GW179 := zg w gb179; replace HO_3 := zq (Kd.qDY (by (with_reducible repeat refine sS ?_); exact HO_3.out) hb); replace HB := zB hb; clear hb hg; have hcz6 := bc6 BK179.out))
 go_loopg [3, 17] k1 (fun kq v3 v17 w' => ∃ (x3_2 : List (S73)) (x17_2 : Int), v17 = .int .i64 x17_2 ∧ qA0 (qAG.l1 kq x3_2 l0 (l0.length : Int) x10_1 ((qA4 l0 x10_1).f4) (((qA4 l0 x10_1).f4).length : Int) x17_2 = some r) ∧ qA0 (kq ≤ k1) ∧ qA0 (Kd.S k73 73 w' w.heap.size (fun _ => True) v3 x3_2) ∧ qA0 (w'.heap[gb179]? = some (.cells #[.string ((qA4 l0 x10_1).f0), .int .i64 ((qA4 l0 x10_1).f1), .int .i64 ((qA4 l0 x10_1).f2), (.slice A178_3 ((qA4 l0 x10_1).f3).length c178_3), (.slice A178_4 ((qA4 l0 x10_1).f4).length c178_4), (.slice A178_5 ((qA4 l0 x10_1).f5).length c178_5)] 49 (0, 0))) ∧ qA0 (Below w.heap.size w w'))
 case atStart => exact ⟨(x3_1), (0), zs, H', ⟨Nat.le_refl _⟩, ⟨by (with_reducible repeat refine sS ?_); exact Kd.qDX (Kd.qCA (Kd.qCA (Kd.qCA (Kd.qCA (Kd.qCA (Kd.qCA (Kd.qEO HO_3.out BK179.out (by decide)) (fun _ hk => hk.2) _) (fun _ hk => hk.2) _) (fun _ hk => hk.2) _) (fun _ hk => hk.2) _) (fun _ hk => hk.2) _) (fun _ hk => hk.2) _) (fun _ hk => trivial)⟩, ⟨zp6 BK179⟩, ⟨zb⟩⟩
 clear H' c2b0 c3b0 c4b0 hcz6 hx178_0 hx178_1 hx178_2 hx178_3 hx178_4 hx178_5 p178 q178
 obtain ⟨x3_2, x17_2, rfl, HA, HK2, HO_3, BK179, HB⟩ := hrel
 obtain _ | k2 := gk
 ·exact absurd HA.out (by simp [qAG.l1])
 have H := HA.out
 clear HA
 simp only [qAG.l1] at H
 obtain ⟨-, c7b0, H⟩ | ⟨-, c7b0, H⟩ := y3 H
 rotate_left
 ·have H' := zq H
  clear H
  go_wp2
  go_roundg k2
  case measure => have := HK1.out; have := HK2.out; omega
  case rel => exact ⟨(x3_2), (wrap64 (x10_1 + 1)), zs, H', ⟨by have := HK1.out; have := HK2.out; omega⟩, ⟨by (with_reducible repeat refine sS ?_); exact HO_3.out⟩, ⟨zb⟩⟩
 obtain ⟨-, c8b0, H⟩ := y1 H
 obtain ⟨-, c9b0, H⟩ := y1 H
 replace H := zi H
 obtain ⟨t182, A100, H⟩ := H
 have A10 := zq A100
 clear A100
 obtain ⟨c11, -, H⟩ := y1 H
 have LMc11 := zq c11
 clear c11
 obtain ⟨y185, hy_⟩ : ∃ y_ : List (S73), y_ = (x3_2 ++ [(⟨(qAK ((qA4 l0 x10_1).f4) x17_2).f0, (qAK ((qA4 l0 x10_1).f4) x17_2).f1, (qAK ((qA4 l0 x10_1).f4) x17_2).f2, (qAK ((qA4 l0 x10_1).f4) x17_2).f3, t182⟩ : S73)]) := ⟨_, rfl⟩
 replace H : (qAG.l1 k2 y185 l0 (l0.length : Int) x10_1 ((qA4 l0 x10_1).f4) (((qA4 l0 x10_1).f4).length : Int) (wrap64 (x17_2 + 1))) = some r := zr
 have Ny185 := zq hy_
 clear hy_
 have H' := zq H
 clear H
 obtain ⟨p180, q180, ad180, A180_4, c180_4, e180, hx180_0, hx180_1, hx180_2, hx180_3, hx180_4, hl180_4, hi180_4⟩ := yp (at_T73 HR178_4.out x17_2)
 cases e180
 (try replace hx180_0 := zh hx180_0)
 replace hx180_1 := zh hx180_1
 replace hx180_2 := zh hx180_2
 replace hx180_3 := zh hx180_3
 replace hx180_4 := zh hx180_4
 have HR180_4 := zq hi180_4
 have HC180_4 := zq hl180_4
 clear hi180_4 hl180_4
 go_wp2_with (first | (refine boxY 7 #[.string (⟨#[]⟩ : ByteArray), .int .i64 0, .int .i64 0, .bool false, .slice none 0 0] 73 ?_; intro gb181 hg w12 BK181 hb; have GW181 := zg w gb181; have NB179_181 := zl BK179 gb181; have NB181_179 := zu BK179 gb181; replace HO_3 := zq (Kd.qDY (Kd.S_elderB (by (with_reducible repeat refine sS ?_); exact HO_3.out) gb181 (Nat.le_of_eq hg.symm)) hb); replace BK179 := zK BK179 hb; replace HB := zB hb; clear hb hg; have hnb13 := NB181_179.out; have hnc13 := NB179_181.out; have hcz14 := bc5 BK181.out) | (at_builtin; refine nilapp_ (some 23) rfl rfl _ _ _ rfl rfl rfl (.slice A180_4 ((qAK ((qA4 l0 x10_1).f4) x17_2).f4).length c180_4) rfl ?_; (with_reducible refine (qCT.calls _ _ ((qAK ((qA4 l0 x10_1).f4) x17_2).f4) t182 _ ?side1 ?side2 A10.out).mono ?_); (case side1 => exact Kd.qAB HR180_4.out zb); (case side2 => exact HC180_4.out); rintro e w15 ⟨v183, rfl, ho0, hb⟩; refine ⟨_, rfl, ?_⟩; have HO184 := zq (Kd.qC3 ho0 (qAH zb)); replace HO_3 := zq (Kd.S_elder' (by (with_reducible repeat refine sS ?_); exact (zSf5 (Kd.qDX HO_3.out (fun k_ hk => (⟨hk, hk.2⟩ : _ ∧ k_ ≠ gb181))))) (Kd.qEV ho0) hb); replace BK179 := zq (qAM (g := gb179) (o := .cells #[.string ((qA4 l0 x10_1).f0), .int .i64 ((qA4 l0 x10_1).f1), .int .i64 ((qA4 l0 x10_1).f2), .slice A178_3 ((qA4 l0 x10_1).f3).length c178_3, .slice (some ad180) ((qA4 l0 x10_1).f4).length c178_4, .slice A178_5 ((qA4 l0 x10_1).f5).length c178_5] 49 (0, 0)) (by refine zf5 ?_ NB179_181; (with_reducible repeat refine st ?_); exact BK179.out) hb); replace BK181 := zq (qAM (zp5 BK181) hb); replace HB := zB hb; (try clear hb hk); (try clear hb); (try clear ho0); obtain ⟨Ao16, co16, eo16⟩ := Kd.qBX HO184.out; subst eo16; have hcz17 := bc5 BK181.out) | ((with_reducible refine qC8 (t := 71) (p := 24) rfl ?_); refine qDT (t := 71) (p := 24) (v := ?vo_w18) (w1 := (w15.setCell ⟨gb181, 4, none⟩ (.slice Ao16 t182.length co16))) ?hg ?ho ?hn ?hr ?_; (case ho => rfl); (case hg => rfl); (case hn => rfl); (case hr => first | (go_simp; done) | (go_simp; rfl)); intro w18 hw; have n0_ : qA0 (Kd.S k73 73 w18 w.heap.size (fun k_ => some k_ ≠ (.slice Ao16 t182.length co16 : Value).ownBlock ∧ k_ ≠ gb181) u3 x3_2) := ⟨(by rw [hw]; exact (by (with_reducible repeat refine sS ?_); exact Kd.qDX (Kd.qCA (Kd.qDX HO_3.out (fun k_ hk => (⟨hk, hk.1.2⟩ : _ ∧ k_ ≠ gb181))) (fun _ hk => hk.2) _) (fun _ hk => ⟨hk.1.2, hk.1.1.2⟩)))⟩; have n1_ : qA0 (Kd.R k75 75 w18 w.heap.size (fun _ => True) (.slice Ao16 t182.length co16) t182) := ⟨(by rw [hw]; exact (by (with_reducible repeat refine sR ?_); exact Kd.qB3 (Kd.qAW (Kd.qBW HO184.out BK181.out (by decide)) (fun _ hk => hk.2) _) (fun _ hk => trivial)))⟩; have n2_ : qA0 (w18.heap[gb179]? = some (.cells #[.string ((qA4 l0 x10_1).f0), .int .i64 ((qA4 l0 x10_1).f1), .int .i64 ((qA4 l0 x10_1).f2), .slice A178_3 ((qA4 l0 x10_1).f3).length c178_3, .slice (some ad180) ((qA4 l0 x10_1).f4).length c178_4, .slice A178_5 ((qA4 l0 x10_1).f5).length c178_5] 49 (0, 0))) := ⟨(by rw [hw]; exact (by refine zf_ ?_ NB179_181; (with_reducible repeat refine st ?_); exact BK179.out))⟩; have n3_ : qA0 (w18.heap[gb181]? = some (.cells #[.string ((qAK ((qA4 l0 x10_1).f4) x17_2).f0), .int .i64 ((qAK ((qA4 l0 x10_1).f4) x17_2).f1), .int .i64 ((qAK ((qA4 l0 x10_1).f4) x17_2).f2), .bool ((qAK ((qA4 l0 x10_1).f4) x17_2).f3), .slice Ao16 t182.length co16] 73 (0, 0))) := ⟨(by rw [hw]; exact (by refine zp_ (cs := #[.string ((qAK ((qA4 l0 x10_1).f4) x17_2).f0), .int .i64 ((qAK ((qA4 l0 x10_1).f4) x17_2).f1), .int .i64 ((qAK ((qA4 l0 x10_1).f4) x17_2).f2), .bool ((qAK ((qA4 l0 x10_1).f4) x17_2).f3), .slice A180_4 ((qAK ((qA4 l0 x10_1).f4) x17_2).f4).length c180_4]) ?_ 4; (with_reducible repeat refine st ?_); exact BK181.out))⟩; have n4_ : qA0 (Below w.heap.size w w18) := ⟨(by rw [hw]; exact zb)⟩; clear hw; clear HO_3; clear HO184; clear BK179; clear BK181; clear HB; have HO_3 := n0_; have HO184 := n1_; have BK179 := n2_; have BK181 := n3_; have HB := n4_; clear n0_ n1_ n2_ n3_ n4_; have hcz19 := bc5 BK181.out) | ((with_reducible refine qDV (b := .append) (xs := #[.tmp 25, .tmp 27]) rfl ?_); at_builtin; refine Kd.S_append k73 (w0 := w) w.heap.size rfl (.tmp 25) (.tmp 27) 46 73 (.agg #[(.string ⟨#[]⟩), (.int .i64 0), (.int .i64 0), (.bool false), (.slice none 0 0)]) 64 rfl Tryz.underlying46 info73 rfl (by decide) (by omega) u3 x3_2 (⟨(qAK ((qA4 l0 x10_1).f4) x17_2).f0, (qAK ((qA4 l0 x10_1).f4) x17_2).f1, (qAK ((qA4 l0 x10_1).f4) x17_2).f2, (qAK ((qA4 l0 x10_1).f4) x17_2).f3, t182⟩ : S73) [.string ((qAK ((qA4 l0 x10_1).f4) x17_2).f0), .int .i64 ((qAK ((qA4 l0 x10_1).f4) x17_2).f1), .int .i64 ((qAK ((qA4 l0 x10_1).f4) x17_2).f2), .bool ((qAK ((qA4 l0 x10_1).f4) x17_2).f3), .slice Ao16 t182.length co16] (fun k_ => k_ ≠ gb181) (fun k_ => some k_ = (.slice Ao16 t182.length co16 : Value).ownBlock) rfl rfl ?aP (fun k_ hk_ => ((Kd.qB3 (ok' := fun k_ => ((fun k_ => k_ ≠ gb181)) k_ ∧ some k_ ≠ (u3 : Value).ownBlock) (Kd.qBW (Kd.R_apart' (HO184.out) (Kd.S_typed HO_3.out) (by decide)) BK181.out (by decide)) (fun k_ hk => ⟨hk.2, hk.1.2⟩))).1 k_ hk_.symm) ?aF ?aO ?aB ?aS ?aL ?_; (case aP => exact k73_mkM _ _ _ (⟨(qAK ((qA4 l0 x10_1).f4) x17_2).f0, (qAK ((qA4 l0 x10_1).f4) x17_2).f1, (qAK ((qA4 l0 x10_1).f4) x17_2).f2, (qAK ((qA4 l0 x10_1).f4) x17_2).f3, t182⟩ : S73) (Kd.qB3 (Kd.qFO rfl (Kd.qB3 (ok' := fun k_ => ((fun k_ => k_ ≠ gb181)) k_ ∧ some k_ ≠ (u3 : Value).ownBlock) (Kd.qBW (Kd.R_apart' (HO184.out) (Kd.S_typed HO_3.out) (by decide)) BK181.out (by decide)) (fun k_ hk => ⟨hk.2, hk.1.2⟩))) (fun _ h_ => h_))); (case aB => exact zb); (case aF => exact (fun k_ hk => Kd.freshB (g := gb181) (o := .cells #[.string ((qAK ((qA4 l0 x10_1).f4) x17_2).f0), .int .i64 ((qAK ((qA4 l0 x10_1).f4) x17_2).f1), .int .i64 ((qAK ((qA4 l0 x10_1).f4) x17_2).f2), .bool ((qAK ((qA4 l0 x10_1).f4) x17_2).f3), .slice Ao16 t182.length co16] 73 (0, 0)) (zk BK181) k_ hk)); (case aO => exact (by (with_reducible repeat refine sS ?_); exact Kd.qDX HO_3.out (fun k_ hk => ⟨hk.2, fun e_ => hk.1 e_⟩))); (case aS => exact (qAH zb)); (case aL => have := LMc11.out; omega); intro v186 w20 ho hb hg hat; rw [← Ny185.out] at ho; have HO187 := zq (ho); replace BK179 := zq (qAF (g := gb179) (o := .cells #[.string ((qA4 l0 x10_1).f0), .int .i64 ((qA4 l0 x10_1).f1), .int .i64 ((qA4 l0 x10_1).f2), .slice A178_3 ((qA4 l0 x10_1).f3).length c178_3, .slice (some ad180) ((qA4 l0 x10_1).f4).length c178_4, .slice A178_5 ((qA4 l0 x10_1).f5).length c178_5] 49 (0, 0)) (zk BK179) hg (Kd.S_ne HO_3.out BK179.out (by decide))); replace BK181 := zq (qAF (g := gb181) (o := .cells #[.string ((qAK ((qA4 l0 x10_1).f4) x17_2).f0), .int .i64 ((qAK ((qA4 l0 x10_1).f4) x17_2).f1), .int .i64 ((qAK ((qA4 l0 x10_1).f4) x17_2).f2), .bool ((qAK ((qA4 l0 x10_1).f4) x17_2).f3), .slice Ao16 t182.length co16] 73 (0, 0)) (zk BK181) hg (Kd.S_away HO_3.out (fun _ hk => hk.2))); replace HB := zq (hb); clear HO_3; clear HO184; clear ho hb hg hat))
 go_roundg k2
 case measure => have := HK1.out; have := HK2.out; omega
 case rel => exact ⟨(y185), (wrap64 (x17_2 + 1)), zs, H', ⟨by have := HK1.out; have := HK2.out; omega⟩, ⟨by (with_reducible repeat refine sS ?_); exact Kd.qDX HO187.out (fun _ hk => trivial)⟩, ⟨zk BK179⟩, ⟨zb⟩⟩
def qA9.l0 : Nat → Int → List Int → Int → Int → Option (Bool)
 | 0, _, _, _, _ => none
 | k + 1, x0, x7, x8, x9 => if x9 < x8 then (if 0 ≤ x9 then (if x9 < (x7.length : Int) then (if x0 = (rd x7 x9) then (some true) else (qA9.l0 k x0 x7 x8 (wrap64 (x9 + 1)))) else (none)) else (none)) else (some (x0 == 0))
def qA9.f (k : Nat) (a0 : Int) (l1 : List Int) : Option (Bool) := qA9.l0 k a0 l1 (l1.length : Int) 0
theorem qA9.qBT : ∀ k, (∀ y0 y1 y2 y3, LeO (qA9.l0 k y0 y1 y2 y3) (qA9.l0 (k + 1) y0 y1 y2 y3))
 | 0 => fun _ _ _ _ r h => by simp [qA9.l0] at h
 | k + 1 => by
  have ih0 := qA9.qBT k
  ·intro y0 y1 y2 y3
   unfold qA9.l0
   exact zm
theorem qA9.mono : ∀ a0 a1 k, LeO (qA9.f k a0 a1) (qA9.f (k + 1) a0 a1) := by
 intro a0 a1 k
 have ih0 := qA9.qBT k
 unfold qA9.f
 exact zm
theorem qA9.calls (k : Nat) (a0 : Int) (A1 : Option Addr) (c1 : Nat) (l1 : List Int) (r : Bool) (w : World) (hr1 : Kd.C (Kd.int .i64) w A1 l1.length l1) (hc1 : l1.length ≤ c1) (h : qA9.f k a0 l1 = some r) :
  Calls Tryz.prog 92 #[.int .i64 a0, .slice A1 l1.length c1] w fun e w' => e = .returned (.bool r) ∧ qB8 w w' := by
 have HR1 := zq hr1
 have HC1 := zq hc1
 clear hr1 hc1
 have H := h
 unfold qA9.f at H
 clear h
 have H' := zq H
 clear H
 go_enter Tryz.func92, Tryz.ntmps92
 go_wp2
 go_loopg [9] k (fun kq v9 w' => ∃ (x9_1 : Int), v9 = .int .i64 x9_1 ∧ qA0 (qA9.l0 kq a0 l1 (l1.length : Int) x9_1 = some r) ∧ qA0 (kq ≤ k) ∧ qB8 w w')
 case atStart => exact ⟨(0), zs, H', ⟨Nat.le_refl _⟩, by repeat (first | exact qB8.refl _ | apply qB8.step)⟩
 clear H'
 obtain ⟨x9_1, rfl, HA, HK1, ⟨m1, rfl⟩⟩ := hrel
 obtain _ | k1 := gk
 ·exact absurd HA.out (by simp [qA9.l0])
 have H := HA.out
 clear HA
 simp only [qA9.l0] at H
 obtain ⟨-, c3b0, H⟩ | ⟨-, c3b0, H⟩ := y3 H
 rotate_left
 ·obtain rfl := zy H
  go_wp2
  go_ret
  exact ⟨zs, zD⟩
 obtain ⟨-, c4b0, H⟩ := y1 H
 obtain ⟨-, c5b0, H⟩ := y1 H
 obtain ⟨-, c6b0, c6b1, H⟩ | ⟨c6, c6b0, c6b1, H⟩ := y4 H
 ·obtain rfl := zy H
  obtain ⟨p188, q188, ad188, e188, hx188_0⟩ := yp (Kd.qCB HR1.out x9_1)
  cases e188
  go_wp2
  go_ret
  exact ⟨zs, zD⟩
 have H' := zq H
 clear H
 obtain ⟨p188, q188, ad188, e188, hx188_0⟩ := yp (Kd.qCB HR1.out x9_1)
 cases e188
 go_wp2
 go_roundg k1
 case measure => have := HK1.out; omega
 case rel => exact ⟨(wrap64 (x9_1 + 1)), zs, H', ⟨by have := HK1.out; omega⟩, by repeat (first | exact qB8.refl _ | apply qB8.step)⟩
def qCK.f (a0 : Int) (a1 : Int) : Option (Int × Bool) := if a0 = 0 then (some (a1, true)) else (if a1 = 0 then (some (a0, true)) else (if a0 = a1 then (some (a0, true)) else (some (0, false))))
theorem qCK.calls (a0 : Int) (a1 : Int) (r1 : Int) (r2 : Bool) (w : World) (h : qCK.f a0 a1 = some (r1, r2)) :
  Calls Tryz.prog 93 #[.int .i64 a0, .int .i64 a1] w fun e w' => e = .returned (.tuple #[.int .i64 r1, .bool r2]) ∧ qB8 w w' := by
 have H := h
 unfold qCK.f at H
 clear h
 obtain ⟨-, c3b0, c3b1, H⟩ | ⟨c3, c3b0, c3b1, H⟩ := y4 H
 ·simp only [Option.some.injEq, Prod.mk.injEq] at H
  obtain ⟨rfl, rfl⟩ := H
  go_enter Tryz.func93, Tryz.ntmps93
  go_wp2
  go_ret2
  exact ⟨zs, zD⟩
 obtain ⟨-, c4b0, c4b1, H⟩ | ⟨c4, c4b0, c4b1, H⟩ := y4 H
 ·simp only [Option.some.injEq, Prod.mk.injEq] at H
  obtain ⟨rfl, rfl⟩ := H
  go_enter Tryz.func93, Tryz.ntmps93
  go_wp2
  go_ret2
  exact ⟨zs, zD⟩
 obtain ⟨-, c5b0, c5b1, H⟩ | ⟨c5, c5b0, c5b1, H⟩ := y4 H
 rotate_left
 ·simp only [Option.some.injEq, Prod.mk.injEq] at H
  obtain ⟨rfl, rfl⟩ := H
  go_enter Tryz.func93, Tryz.ntmps93
  go_wp2
  go_ret2
  exact ⟨zs, zD⟩
 simp only [Option.some.injEq, Prod.mk.injEq] at H
 obtain ⟨rfl, rfl⟩ := H
 go_enter Tryz.func93, Tryz.ntmps93
 go_wp2
 go_ret2
 exact ⟨zs, zD⟩
mutual
def qAQ.j0 : Nat → Int → Int → Int → Bool → Option (Int × Bool)
 | 0, _, _, _, _ => none
 | k + 1, x0, x1, x2, x8 => if x8 = true then (some (0, false)) else (if x1 = 0 then (qAQ.j1 k x0 x1 x2 true) else (qAQ.j1 k x0 x1 x2 (x2 == 0)))
def qAQ.j1 : Nat → Int → Int → Int → Bool → Option (Int × Bool)
 | 0, _, _, _, _ => none
 | k + 1, x0, x1, x2, x15 => if x15 = true then (if x2 = 4 then (some (0, (x0 == 11))) else (some (0, true))) else (if x1 = 4 then (qAQ.j2 k x0 x1 x2 (x2 == 3)) else (qAQ.j2 k x0 x1 x2 false))
def qAQ.j2 : Nat → Int → Int → Int → Bool → Option (Int × Bool)
 | 0, _, _, _, _ => none
 | k + 1, x0, x1, x2, x28 => if x28 = true then (some (4, true)) else (if x1 = 4 then (if x2 = 4 then (some (3, (x0 == 11))) else (some (x1, (x1 == x2)))) else (some (x1, (x1 == x2))))
end
def qAQ.f (k : Nat) (a0 : Int) (a1 : Int) (a2 : Int) : Option (Int × Bool) := if a1 = 1 then (qAQ.j0 k a0 a1 a2 true) else (qAQ.j0 k a0 a1 a2 (a2 == 1))
theorem qAQ.qBT : ∀ k, (∀ y0 y1 y2 y3, LeO (qAQ.j0 k y0 y1 y2 y3) (qAQ.j0 (k + 1) y0 y1 y2 y3)) ∧ (∀ y0 y1 y2 y3, LeO (qAQ.j1 k y0 y1 y2 y3) (qAQ.j1 (k + 1) y0 y1 y2 y3)) ∧ (∀ y0 y1 y2 y3, LeO (qAQ.j2 k y0 y1 y2 y3) (qAQ.j2 (k + 1) y0 y1 y2 y3))
 | 0 => ⟨fun _ _ _ _ r h => by simp [qAQ.j0] at h, fun _ _ _ _ r h => by simp [qAQ.j1] at h, fun _ _ _ _ r h => by simp [qAQ.j2] at h⟩
 | k + 1 => by
  obtain ⟨ih0, ih1, ih2⟩ := qAQ.qBT k
  refine ⟨?_, ?_, ?_⟩
  ·intro y0 y1 y2 y3
   unfold qAQ.j0
   exact zm
  ·intro y0 y1 y2 y3
   unfold qAQ.j1
   exact zm
  ·intro y0 y1 y2 y3
   unfold qAQ.j2
   exact zm
theorem qAQ.mono : ∀ a0 a1 a2 k, LeO (qAQ.f k a0 a1 a2) (qAQ.f (k + 1) a0 a1 a2) := by
 intro a0 a1 a2 k
 obtain ⟨ih0, ih1, ih2⟩ := qAQ.qBT k
 unfold qAQ.f
 exact zm
theorem qAQ.calls (k : Nat) (a0 : Int) (a1 : Int) (a2 : Int) (r1 : Int) (r2 : Bool) (w : World) (h : qAQ.f k a0 a1 a2 = some (r1, r2)) :
  Calls Tryz.prog 94 #[.int .i64 a0, .int .i64 a1, .int .i64 a2] w fun e w' => e = .returned (.tuple #[.int .i64 r1, .bool r2]) ∧ qB8 w w' := by
 have H := h
 unfold qAQ.f at H
 clear h
 have HC4 := zq H
 clear H
 go_enter Tryz.func94, Tryz.ntmps94
 go_upto_region 1 with (fail)
 go_cut [8] (fun v8 wc => ∃ (kq : Nat) (x8_3 : Bool), v8 = .bool x8_3 ∧ qA0 (qAQ.j0 kq a0 a1 a2 x8_3 = some (r1, r2)) ∧ qA0 (kq ≤ k) ∧ qB8 w wc)
 case first =>
  have H := HC4.out
  clear HC4
  obtain ⟨-, c5b0, c5b1, H⟩ | ⟨c5, c5b0, c5b1, H⟩ := y4 H
  rotate_left
  ·(first | rw [c5b0] | (simp only [qCI, qCO]; rw [c5b0]) | skip)
   have H' := zq H
   clear H
   go_wp2
   go_meet
   case rel => exact ⟨_, ((a2 == 1)), zs, H', ⟨by first | omega | exact Nat.le_refl _⟩, by repeat (first | exact qB8.refl _ | apply qB8.step)⟩
  (first | rw [c5b0] | (simp only [qCI, qCO]; rw [c5b0]) | skip)
  have H' := zq H
  clear H
  go_wp2
  go_meet
  case rel => exact ⟨_, (true), zs, H', ⟨by first | omega | exact Nat.le_refl _⟩, by repeat (first | exact qB8.refl _ | apply qB8.step)⟩
 clear HC4
 obtain ⟨kq, x8_3, rfl, HA, HJ3, ⟨mc3, rfl⟩⟩ := hcut
 obtain _ | kj3 := kq
 ·exact absurd HA.out (by simp [qAQ.j0])
 have H := HA.out
 clear HA
 simp only [qAQ.j0] at H
 by_cases c6 : x8_3 = true
 ·subst c6
  rw [if_pos rfl] at H
  simp only [Option.some.injEq, Prod.mk.injEq] at H
  obtain ⟨rfl, rfl⟩ := H
  go_wp2
  go_ret2
  exact ⟨zs, zD⟩
 replace c6 := Bool.eq_false_iff.mpr c6
 subst c6
 rw [zj] at H
 have HC7 := zq H
 clear H
 go_upto_region 3 with (fail)
 go_cut [15] (fun v15 wc => ∃ (kq : Nat) (x15_6 : Bool), v15 = .bool x15_6 ∧ qA0 (qAQ.j1 kq a0 a1 a2 x15_6 = some (r1, r2)) ∧ qA0 (kq ≤ kj3) ∧ qB8 w wc)
 case first =>
  have H := HC7.out
  clear HC7
  obtain ⟨-, c8b0, c8b1, H⟩ | ⟨c8, c8b0, c8b1, H⟩ := y4 H
  rotate_left
  ·(first | rw [c8b0] | (simp only [qCI, qCO]; rw [c8b0]) | skip)
   have H' := zq H
   clear H
   go_wp2
   go_meet
   case rel => exact ⟨_, ((a2 == 0)), zs, H', ⟨by have := HJ3.out; first | omega | exact Nat.le_refl _⟩, by repeat (first | exact qB8.refl _ | apply qB8.step)⟩
  (first | rw [c8b0] | (simp only [qCI, qCO]; rw [c8b0]) | skip)
  have H' := zq H
  clear H
  go_wp2
  go_meet
  case rel => exact ⟨_, (true), zs, H', ⟨by have := HJ3.out; first | omega | exact Nat.le_refl _⟩, by repeat (first | exact qB8.refl _ | apply qB8.step)⟩
 clear HC7
 obtain ⟨kq, x15_6, rfl, HA, HJ6, ⟨mc6, rfl⟩⟩ := hcut
 obtain _ | kj6 := kq
 ·exact absurd HA.out (by simp [qAQ.j1])
 have H := HA.out
 clear HA
 simp only [qAQ.j1] at H
 by_cases c9 : x15_6 = true
 ·subst c9
  rw [if_pos rfl] at H
  obtain ⟨-, c10b0, c10b1, H⟩ | ⟨c10, c10b0, c10b1, H⟩ := y4 H
  rotate_left
  ·simp only [Option.some.injEq, Prod.mk.injEq] at H
   obtain ⟨rfl, rfl⟩ := H
   go_wp2
   go_ret2
   exact ⟨zs, zD⟩
  simp only [Option.some.injEq, Prod.mk.injEq] at H
  obtain ⟨rfl, rfl⟩ := H
  go_wp2
  go_ret2
  exact ⟨zs, zD⟩
 replace c9 := Bool.eq_false_iff.mpr c9
 subst c9
 rw [zj] at H
 have HC11 := zq H
 clear H
 go_upto_region 5 with (fail)
 go_cut [28] (fun v28 wc => ∃ (kq : Nat) (x28_10 : Bool), v28 = .bool x28_10 ∧ qA0 (qAQ.j2 kq a0 a1 a2 x28_10 = some (r1, r2)) ∧ qA0 (kq ≤ kj6) ∧ qB8 w wc)
 case first =>
  have H := HC11.out
  clear HC11
  obtain ⟨-, c12b0, c12b1, H⟩ | ⟨c12, c12b0, c12b1, H⟩ := y4 H
  rotate_left
  ·(first | rw [c12b0] | (simp only [qCI, qCO]; rw [c12b0]) | skip)
   have H' := zq H
   clear H
   go_wp2
   go_meet
   case rel => exact ⟨_, (false), zs, H', ⟨by have := HJ3.out; have := HJ6.out; first | omega | exact Nat.le_refl _⟩, by repeat (first | exact qB8.refl _ | apply qB8.step)⟩
  (first | rw [c12b0] | (simp only [qCI, qCO]; rw [c12b0]) | skip)
  have H' := zq H
  clear H
  go_wp2
  go_meet
  case rel => exact ⟨_, ((a2 == 3)), zs, H', ⟨by have := HJ3.out; have := HJ6.out; first | omega | exact Nat.le_refl _⟩, by repeat (first | exact qB8.refl _ | apply qB8.step)⟩
 clear HC11
 obtain ⟨kq, x28_10, rfl, HA, HJ10, ⟨mc10, rfl⟩⟩ := hcut
 obtain _ | kj10 := kq
 ·exact absurd HA.out (by simp [qAQ.j2])
 have H := HA.out
 clear HA
 simp only [qAQ.j2] at H
 by_cases c13 : x28_10 = true
 ·subst c13
  rw [if_pos rfl] at H
  simp only [Option.some.injEq, Prod.mk.injEq] at H
  obtain ⟨rfl, rfl⟩ := H
  go_wp2
  go_ret2
  exact ⟨zs, zD⟩
 replace c13 := Bool.eq_false_iff.mpr c13
 subst c13
 rw [zj] at H
 obtain ⟨-, c14b0, c14b1, H⟩ | ⟨c14, c14b0, c14b1, H⟩ := y4 H
 rotate_left
 ·simp only [Option.some.injEq, Prod.mk.injEq] at H
  obtain ⟨rfl, rfl⟩ := H
  go_wp2
  go_ret2
  exact ⟨zs, zD⟩
 obtain ⟨-, c15b0, c15b1, H⟩ | ⟨c15, c15b0, c15b1, H⟩ := y4 H
 rotate_left
 ·simp only [Option.some.injEq, Prod.mk.injEq] at H
  obtain ⟨rfl, rfl⟩ := H
  go_wp2
  go_ret2
  exact ⟨zs, zD⟩
 simp only [Option.some.injEq, Prod.mk.injEq] at H
 obtain ⟨rfl, rfl⟩ := H
 go_wp2
 go_ret2
 exact ⟨zs, zD⟩
mutual
def qAE.j0 : Nat → Int → Int → Bool → Option (Int × Bool)
 | 0, _, _, _ => none
 | k + 1, x0, x1, x6 => if x6 = true then (some (0, false)) else (if x0 = 0 then (qAE.j1 k x0 x1 true) else (qAE.j1 k x0 x1 (x1 == 0)))
def qAE.j1 : Nat → Int → Int → Bool → Option (Int × Bool)
 | 0, _, _, _ => none
 | k + 1, x0, x1, x17 => if x17 = true then (some (0, true)) else (if x1 = 5 then (if x0 = 2 then (some (x0, true)) else (some (x0, (x0 == 3)))) else (some (x0, true)))
end
def qAE.f (k : Nat) (a0 : Int) (a1 : Int) : Option (Int × Bool) := (qA9.f k a0 (([2, 3, 5, 6] : List Int))).bind fun t192 => (if t192 = true then ((qA9.f k a1 (([5, 6] : List Int))).bind fun t196 => (qAE.j0 k a0 a1 (!t196))) else (qAE.j0 k a0 a1 true))
theorem qAE.qBT : ∀ k, (∀ y0 y1 y2, LeO (qAE.j0 k y0 y1 y2) (qAE.j0 (k + 1) y0 y1 y2)) ∧ (∀ y0 y1 y2, LeO (qAE.j1 k y0 y1 y2) (qAE.j1 (k + 1) y0 y1 y2))
 | 0 => ⟨fun _ _ _ r h => by simp [qAE.j0] at h, fun _ _ _ r h => by simp [qAE.j1] at h⟩
 | k + 1 => by
  obtain ⟨ih0, ih1⟩ := qAE.qBT k
  refine ⟨?_, ?_⟩
  ·intro y0 y1 y2
   unfold qAE.j0
   have im0 := @qA9.mono
   exact zm
  ·intro y0 y1 y2
   unfold qAE.j1
   have im0 := @qA9.mono
   exact zm
theorem qAE.mono : ∀ a0 a1 k, LeO (qAE.f k a0 a1) (qAE.f (k + 1) a0 a1) := by
 intro a0 a1 k
 obtain ⟨ih0, ih1⟩ := qAE.qBT k
 unfold qAE.f
 have im0 := @qA9.mono
 exact zm
theorem qAE.calls (k : Nat) (a0 : Int) (a1 : Int) (r1 : Int) (r2 : Bool) (w : World) (h : qAE.f k a0 a1 = some (r1, r2)) :
  Calls Tryz.prog 95 #[.int .i64 a0, .int .i64 a1] w fun e w' => e = .returned (.tuple #[.int .i64 r1, .bool r2]) ∧ Below w.heap.size w w' := by
 have HB := zq (Below.refl w.heap.size w)
 have H := h
 unfold qAE.f at H
 clear h
 have HC3 := zq H
 clear H
 go_enter Tryz.func95, Tryz.ntmps95
 go_upto_region 1 with (fail)
 go_cut [6] (fun v6 wc => ∃ (kq : Nat) (x6_2 : Bool), v6 = .bool x6_2 ∧ qA0 (qAE.j0 kq a0 a1 x6_2 = some (r1, r2)) ∧ qA0 (kq ≤ k) ∧ qA0 (Below w.heap.size w wc))
 case first =>
  have H := HC3.out
  clear HC3
  obtain ⟨y189, hy_⟩ : ∃ y_ : List Int, y_ = (([2, 3, 5, 6] : List Int)) := ⟨_, rfl⟩
  replace H : ((qA9.f k a0 y189).bind fun t192 => (if t192 = true then ((qA9.f k a1 (([5, 6] : List Int))).bind fun t196 => (qAE.j0 k a0 a1 (!t196))) else (qAE.j0 k a0 a1 true))) = some (r1, r2) := zr
  have Ny189 := zq hy_
  clear hy_
  replace H := zi H
  obtain ⟨t192, A40, H⟩ := H
  have A4 := zq A40
  clear A40
  by_cases c5 : t192 = true
  rotate_left
  ·replace c5 := Bool.eq_false_iff.mpr c5
   subst c5
   rw [zj] at H
   have H' := zq H
   clear H
   go_wp2_with (first | ((with_reducible refine qAS (N := 8) rfl ?_); (try (refine qC1 (by rfl) ?_; dsimp only)); refine Kd.qFV (Kd.int .i64) _ 3 ?hg (N := 8) ?hd (xs := ([2, 3, 5, 6] : List Int)) (inner := [.int .i64 2, .int .i64 3, .int .i64 5, .int .i64 6]) (ok := fun _ => True) (okp := fun _ => True) ?hr ?hp (fun _ hk => hk) trivial (Below.refl _ _) (Nat.le_refl _) (by simp) ?_; (case hd => rfl); (case hg => rfl); (case hr => first | (go_simp; done) | (go_simp; rfl)); (case hp => exact (Reps.one (show Kd.M (Kd.int .i64) _ _ _ 2 [.int .i64 2] from rfl) (Reps.one (show Kd.M (Kd.int .i64) _ _ _ 3 [.int .i64 3] from rfl) (Reps.one (show Kd.M (Kd.int .i64) _ _ _ 5 [.int .i64 5] from rfl) (Reps.one (show Kd.M (Kd.int .i64) _ _ _ 6 [.int .i64 6] from rfl) (Reps.none _ _)))))); intro v190 w13 ho14 hb hg_ hnew_; clear hg_ hnew_; (first | rw [← Ny189.out] at ho14 | (simp only [Int.reduceToNat] at ho14; rw [← Ny189.out] at ho14)); have HO191 := zq (Kd.qC3 ho14 (qAH zb)); replace HB := zB hb; clear hb ho14; obtain ⟨Ao15, co15, eo15⟩ := Kd.qBX HO191.out; subst eo15) | (refine qBY (some 9) Tryz.func92 #[.int .i64 a0, .slice Ao15 y189.length co15] ?_; (with_reducible refine (qA9.calls k a0 _ _ y189 false _ ?side1 ?side2 A4.out).mono ?_); (case side1 => repeat (first | exact (Kd.qAR HO191.out).2.2 | refine sC ?_)); (case side2 => exact (Kd.qAR HO191.out).2.1); rintro e w' ⟨rfl, ⟨nd, rfl⟩⟩; refine ⟨_, rfl, ?_⟩))
   go_meet
   case rel => exact ⟨_, (true), zs, H', ⟨by first | omega | exact Nat.le_refl _⟩, ⟨zb⟩⟩
  subst c5
  rw [if_pos rfl] at H
  obtain ⟨y193, hy_⟩ : ∃ y_ : List Int, y_ = (([5, 6] : List Int)) := ⟨_, rfl⟩
  replace H : ((qA9.f k a1 y193).bind fun t196 => (qAE.j0 k a0 a1 (!t196))) = some (r1, r2) := zr
  have Ny193 := zq hy_
  clear hy_
  replace H := zi H
  obtain ⟨t196, A60, H⟩ := H
  have A6 := zq A60
  clear A60
  have H' := zq H
  clear H
  go_wp2_with (first | ((with_reducible refine qAS (N := 8) rfl ?_); (try (refine qC1 (by rfl) ?_; dsimp only)); refine Kd.qFV (Kd.int .i64) _ 3 ?hg (N := 8) ?hd (xs := ([2, 3, 5, 6] : List Int)) (inner := [.int .i64 2, .int .i64 3, .int .i64 5, .int .i64 6]) (ok := fun _ => True) (okp := fun _ => True) ?hr ?hp (fun _ hk => hk) trivial (Below.refl _ _) (Nat.le_refl _) (by simp) ?_; (case hd => rfl); (case hg => rfl); (case hr => first | (go_simp; done) | (go_simp; rfl)); (case hp => exact (Reps.one (show Kd.M (Kd.int .i64) _ _ _ 2 [.int .i64 2] from rfl) (Reps.one (show Kd.M (Kd.int .i64) _ _ _ 3 [.int .i64 3] from rfl) (Reps.one (show Kd.M (Kd.int .i64) _ _ _ 5 [.int .i64 5] from rfl) (Reps.one (show Kd.M (Kd.int .i64) _ _ _ 6 [.int .i64 6] from rfl) (Reps.none _ _)))))); intro v190 w7 ho8 hb hg_ hnew_; clear hg_ hnew_; (first | rw [← Ny189.out] at ho8 | (simp only [Int.reduceToNat] at ho8; rw [← Ny189.out] at ho8)); have HO191 := zq (Kd.qC3 ho8 (qAH zb)); replace HB := zB hb; clear hb ho8; obtain ⟨Ao9, co9, eo9⟩ := Kd.qBX HO191.out; subst eo9) | (refine qBY (some 9) Tryz.func92 #[.int .i64 a0, .slice Ao9 y189.length co9] ?_; (with_reducible refine (qA9.calls k a0 _ _ y189 true _ ?side1 ?side2 A4.out).mono ?_); (case side1 => repeat (first | exact (Kd.qAR HO191.out).2.2 | refine sC ?_)); (case side2 => exact (Kd.qAR HO191.out).2.1); rintro e w' ⟨rfl, ⟨nd, rfl⟩⟩; refine ⟨_, rfl, ?_⟩) | ((with_reducible refine qAS (N := 13) rfl ?_); (try (refine qC1 (by rfl) ?_; dsimp only)); refine Kd.qFV (Kd.int .i64) _ 3 ?hg (N := 13) ?hd (xs := ([5, 6] : List Int)) (inner := [.int .i64 5, .int .i64 6]) (ok := fun _ => True) (okp := fun _ => True) ?hr ?hp (fun _ hk => hk) trivial (Below.refl _ _) (Nat.le_refl _) (by simp) ?_; (case hd => rfl); (case hg => rfl); (case hr => first | (go_simp; done) | (go_simp; rfl)); (case hp => exact (Reps.one (show Kd.M (Kd.int .i64) _ _ _ 5 [.int .i64 5] from rfl) (Reps.one (show Kd.M (Kd.int .i64) _ _ _ 6 [.int .i64 6] from rfl) (Reps.none _ _)))); intro v194 w10 ho11 hb hg_ hnew_; clear hg_ hnew_; (first | rw [← Ny193.out] at ho11 | (simp only [Int.reduceToNat] at ho11; rw [← Ny193.out] at ho11)); have HO195 := zq (Kd.qC3 (Kd.R_new' ho11 (Kd.R_lt (by (with_reducible repeat refine sR ?_); exact HO191.out))) (qAH zb)); replace HO191 := zq (Kd.R_elder' (by (with_reducible repeat refine sR ?_); exact HO191.out) (Kd.qEV ho11) hb); replace HB := zB hb; clear hb ho11; obtain ⟨Ao12, co12, eo12⟩ := Kd.qBX HO195.out; subst eo12) | (go_at_call 92; (with_reducible refine (qA9.calls k a1 _ _ y193 t196 _ ?side1 ?side2 A6.out).mono ?_); (case side1 => repeat (first | exact (Kd.qAR HO195.out).2.2 | refine sC ?_)); (case side2 => exact (Kd.qAR HO195.out).2.1); rintro e w' ⟨rfl, ⟨nd, rfl⟩⟩))
  go_meet
  case rel => exact ⟨_, (!t196), zs, H', ⟨by first | omega | exact Nat.le_refl _⟩, ⟨zb⟩⟩
 clear HC3
 obtain ⟨kq, x6_2, rfl, HA, HJ2, HB⟩ := hcut
 obtain _ | kj2 := kq
 ·exact absurd HA.out (by simp [qAE.j0])
 have H := HA.out
 clear HA
 simp only [qAE.j0] at H
 by_cases c16 : x6_2 = true
 ·subst c16
  rw [if_pos rfl] at H
  simp only [Option.some.injEq, Prod.mk.injEq] at H
  obtain ⟨rfl, rfl⟩ := H
  go_wp2
  go_ret2
  exact ⟨zf, zb⟩
 replace c16 := Bool.eq_false_iff.mpr c16
 subst c16
 rw [zj] at H
 have HC17 := zq H
 clear H
 go_upto_region 3 with (fail)
 go_cut [17] (fun v17 wc => ∃ (kq : Nat) (x17_16 : Bool), v17 = .bool x17_16 ∧ qA0 (qAE.j1 kq a0 a1 x17_16 = some (r1, r2)) ∧ qA0 (kq ≤ kj2) ∧ qA0 (Below w.heap.size w wc))
 case first =>
  have H := HC17.out
  clear HC17
  obtain ⟨-, c18b0, c18b1, H⟩ | ⟨c18, c18b0, c18b1, H⟩ := y4 H
  rotate_left
  ·(first | rw [c18b0] | (simp only [qCI, qCO]; rw [c18b0]) | skip)
   have H' := zq H
   clear H
   go_wp2
   go_meet
   case rel => exact ⟨_, ((a1 == 0)), zs, H', ⟨by have := HJ2.out; first | omega | exact Nat.le_refl _⟩, ⟨zb⟩⟩
  (first | rw [c18b0] | (simp only [qCI, qCO]; rw [c18b0]) | skip)
  have H' := zq H
  clear H
  go_wp2
  go_meet
  case rel => exact ⟨_, (true), zs, H', ⟨by have := HJ2.out; first | omega | exact Nat.le_refl _⟩, ⟨zb⟩⟩
 clear HC17
 obtain ⟨kq, x17_16, rfl, HA, HJ16, HB⟩ := hcut
 obtain _ | kj16 := kq
 ·exact absurd HA.out (by simp [qAE.j1])
 have H := HA.out
 clear HA
 simp only [qAE.j1] at H
 by_cases c19 : x17_16 = true
 ·subst c19
  rw [if_pos rfl] at H
  simp only [Option.some.injEq, Prod.mk.injEq] at H
  obtain ⟨rfl, rfl⟩ := H
  go_wp2
  go_ret2
  exact ⟨zf, zb⟩
 replace c19 := Bool.eq_false_iff.mpr c19
 subst c19
 rw [zj] at H
 obtain ⟨-, c20b0, c20b1, H⟩ | ⟨c20, c20b0, c20b1, H⟩ := y4 H
 rotate_left
 ·simp only [Option.some.injEq, Prod.mk.injEq] at H
  obtain ⟨rfl, rfl⟩ := H
  go_wp2
  go_ret2
  exact ⟨zf, zb⟩
 obtain ⟨-, c21b0, c21b1, H⟩ | ⟨c21, c21b0, c21b1, H⟩ := y4 H
 rotate_left
 ·simp only [Option.some.injEq, Prod.mk.injEq] at H
  obtain ⟨rfl, rfl⟩ := H
  go_wp2
  go_ret2
  exact ⟨zf, zb⟩
 simp only [Option.some.injEq, Prod.mk.injEq] at H
 obtain ⟨rfl, rfl⟩ := H
 go_wp2
 go_ret2
 exact ⟨zf, zb⟩
mutual
def qA6.j0 : Nat → List Int → Int → Bool → Int → List Int → Int → Int → ByteArray → ByteArray → Int → Int → Bool → List (S75) → Option (Int × Bool)
 | 0, _, _, _, _, _, _, _, _, _, _, _, _, _ => none
 | k + 1, x1, x17, x29, x198000, x198001, x198002, x198003, x198004, x199000, x199001, x199002, x199003, x199004 => if x29 = true then (if 0 < (x1.length : Int) then ((qA9.f k (rd x1 0) (([1] : List Int))).bind fun t208 => (if t208 = true then (if 1 < (x1.length : Int) then ((qA9.f k (rd x1 1) (([1] : List Int))).bind fun t213 => (some (1, t213))) else (none)) else (some (1, false)))) else (none)) else (if x17 = 9 then (if 0 < (x1.length : Int) then (if 1 < (x1.length : Int) then ((qCK.f (rd x1 0) (rd x1 1)).bind fun bt216 => (some (1, bt216.2))) else (none)) else (none)) else (if x17 = 7 then (qA6.j1 k x1 x17 (x17 == 7) x198000 x198001 x198002 x198003 x198004 x199000 x199001 x199002 x199003 x199004) else (qA6.j1 k x1 x17 (x17 == 8) x198000 x198001 x198002 x198003 x198004 x199000 x199001 x199002 x199003 x199004)))
def qA6.j1 : Nat → List Int → Int → Bool → Int → List Int → Int → Int → ByteArray → ByteArray → Int → Int → Bool → List (S75) → Option (Int × Bool)
 | 0, _, _, _, _, _, _, _, _, _, _, _, _, _ => none
 | k + 1, x1, x17, x57, x198000, x198001, x198002, x198003, x198004, x199000, x199001, x199002, x199003, x199004 => if x57 = true then (if 0 < (x1.length : Int) then (if 1 < (x1.length : Int) then ((qCK.f (rd x1 0) (rd x1 1)).bind fun bt220 => (if bt220.2 = true then (some (1, (bt220.1 != 1))) else (some (1, false)))) else (none)) else (none)) else (if x17 = 13 then (qA6.j2 k x1 x17 (x17 == 13) x198000 x198001 x198002 x198003 x198004 x199000 x199001 x199002 x199003 x199004) else (qA6.j2 k x1 x17 (x17 == 14) x198000 x198001 x198002 x198003 x198004 x199000 x199001 x199002 x199003 x199004))
def qA6.j2 : Nat → List Int → Int → Bool → Int → List Int → Int → Int → ByteArray → ByteArray → Int → Int → Bool → List (S75) → Option (Int × Bool)
 | 0, _, _, _, _, _, _, _, _, _, _, _, _, _ => none
 | k + 1, x1, x17, x75, x198000, x198001, x198002, x198003, x198004, x199000, x199001, x199002, x199003, x199004 => if x75 = true then (if 0 < (x1.length : Int) then (if 1 < (x1.length : Int) then ((qCK.f (rd x1 0) (rd x1 1)).bind fun bt224 => (if bt224.2 = true then (some (bt224.1, (bt224.1 != 1))) else (some (bt224.1, false)))) else (none)) else (none)) else (if x17 = 10 then (qA6.j3 k x1 x17 (x17 == 10) x198000 x198001 x198002 x198003 x198004 x199000 x199001 x199002 x199003 x199004) else (qA6.j3 k x1 x17 (x17 == 11) x198000 x198001 x198002 x198003 x198004 x199000 x199001 x199002 x199003 x199004))
def qA6.j3 : Nat → List Int → Int → Bool → Int → List Int → Int → Int → ByteArray → ByteArray → Int → Int → Bool → List (S75) → Option (Int × Bool)
 | 0, _, _, _, _, _, _, _, _, _, _, _, _, _ => none
 | k + 1, x1, x17, x94, x198000, x198001, x198002, x198003, x198004, x199000, x199001, x199002, x199003, x199004 => if x94 = true then (if 0 < (x1.length : Int) then (if 1 < (x1.length : Int) then ((qAQ.f k x198000 (rd x1 0) (rd x1 1)).bind fun bt228 => (some (bt228.1, bt228.2))) else (none)) else (none)) else (if x17 = 12 then (if 0 < (x1.length : Int) then (if 1 < (x1.length : Int) then ((qAE.f k (rd x1 0) (rd x1 1)).bind fun bt232 => (some (bt232.1, bt232.2))) else (none)) else (none)) else (if x17 = 15 then (if 1 < (x1.length : Int) then (if 2 < (x1.length : Int) then ((qCK.f (rd x1 1) (rd x1 2)).bind fun bt236 => (if bt236.2 = true then (if 0 < (x1.length : Int) then ((qA9.f k (rd x1 0) (([1] : List Int))).bind fun t242 => (some (bt236.1, t242))) else (none)) else (some (bt236.1, false)))) else (none)) else (none)) else (if x17 = 16 then (if 0 < (x1.length : Int) then ((qA9.f k (rd x1 0) (([x199001] : List Int))).bind fun t247 => (some (x199002, t247))) else (none)) else (if x17 = 17 then (if 0 < (x1.length : Int) then ((qA9.f k (rd x1 0) (([2] : List Int))).bind fun t252 => (some (2, t252))) else (none)) else (if 0 < (x1.length : Int) then ((qA9.f k (rd x1 0) (([4] : List Int))).bind fun t257 => (if t257 = true then (if 1 < (x1.length : Int) then ((qA9.f k (rd x1 1) (([4] : List Int))).bind fun t262 => (some (5, t262))) else (none)) else (some (5, false)))) else (none))))))
end
def qA6.f (k : Nat) (a0_0 : Int) (l0_1 : List Int) (a0_2 : Int) (a0_3 : Int) (a0_4 : ByteArray) (l1 : List Int) (a2_0 : ByteArray) (a2_1 : Int) (a2_2 : Int) (a2_3 : Bool) (l2_4 : List (S75)) : Option (Int × Bool) := if a0_0 = 0 then (some (a0_2, true)) else (if a0_0 = 4 then (if 0 < (l1.length : Int) then ((qA9.f k (rd l1 0) (([1] : List Int))).bind fun t203 => (some (1, t203))) else (none)) else (if a0_0 = 5 then (qA6.j0 k l1 a0_0 (a0_0 == 5) a0_0 l0_1 a0_2 a0_3 a0_4 a2_0 a2_1 a2_2 a2_3 l2_4) else (qA6.j0 k l1 a0_0 (a0_0 == 6) a0_0 l0_1 a0_2 a0_3 a0_4 a2_0 a2_1 a2_2 a2_3 l2_4)))
theorem qA6.qBT : ∀ k, (∀ y0 y1 y2 y3 y4 y5 y6 y7 y8 y9 y10 y11 y12, LeO (qA6.j0 k y0 y1 y2 y3 y4 y5 y6 y7 y8 y9 y10 y11 y12) (qA6.j0 (k + 1) y0 y1 y2 y3 y4 y5 y6 y7 y8 y9 y10 y11 y12)) ∧ (∀ y0 y1 y2 y3 y4 y5 y6 y7 y8 y9 y10 y11 y12, LeO (qA6.j1 k y0 y1 y2 y3 y4 y5 y6 y7 y8 y9 y10 y11 y12) (qA6.j1 (k + 1) y0 y1 y2 y3 y4 y5 y6 y7 y8 y9 y10 y11 y12)) ∧ (∀ y0 y1 y2 y3 y4 y5 y6 y7 y8 y9 y10 y11 y12, LeO (qA6.j2 k y0 y1 y2 y3 y4 y5 y6 y7 y8 y9 y10 y11 y12) (qA6.j2 (k + 1) y0 y1 y2 y3 y4 y5 y6 y7 y8 y9 y10 y11 y12)) ∧ (∀ y0 y1 y2 y3 y4 y5 y6 y7 y8 y9 y10 y11 y12, LeO (qA6.j3 k y0 y1 y2 y3 y4 y5 y6 y7 y8 y9 y10 y11 y12) (qA6.j3 (k + 1) y0 y1 y2 y3 y4 y5 y6 y7 y8 y9 y10 y11 y12))
 | 0 => ⟨fun _ _ _ _ _ _ _ _ _ _ _ _ _ r h => by simp [qA6.j0] at h, fun _ _ _ _ _ _ _ _ _ _ _ _ _ r h => by simp [qA6.j1] at h, fun _ _ _ _ _ _ _ _ _ _ _ _ _ r h => by simp [qA6.j2] at h, fun _ _ _ _ _ _ _ _ _ _ _ _ _ r h => by simp [qA6.j3] at h⟩
 | k + 1 => by
  obtain ⟨ih0, ih1, ih2, ih3⟩ := qA6.qBT k
  refine ⟨?_, ?_, ?_, ?_⟩
  ·intro y0 y1 y2 y3 y4 y5 y6 y7 y8 y9 y10 y11 y12
   unfold qA6.j0
   have im0 := @qA9.mono
   have im1 := @qAE.mono
   have im2 := @qAQ.mono
   exact zm
  ·intro y0 y1 y2 y3 y4 y5 y6 y7 y8 y9 y10 y11 y12
   unfold qA6.j1
   have im0 := @qA9.mono
   have im1 := @qAE.mono
   have im2 := @qAQ.mono
   exact zm
  ·intro y0 y1 y2 y3 y4 y5 y6 y7 y8 y9 y10 y11 y12
   unfold qA6.j2
   have im0 := @qA9.mono
   have im1 := @qAE.mono
   have im2 := @qAQ.mono
   exact zm
  ·intro y0 y1 y2 y3 y4 y5 y6 y7 y8 y9 y10 y11 y12
   unfold qA6.j3
   have im0 := @qA9.mono
   have im1 := @qAE.mono
   have im2 := @qAQ.mono
   exact zm
theorem qA6.mono : ∀ a0 a1 a2 a3 a4 a5 a6 a7 a8 a9 a10 k, LeO (qA6.f k a0 a1 a2 a3 a4 a5 a6 a7 a8 a9 a10) (qA6.f (k + 1) a0 a1 a2 a3 a4 a5 a6 a7 a8 a9 a10) := by
 intro a0 a1 a2 a3 a4 a5 a6 a7 a8 a9 a10 k
 obtain ⟨ih0, ih1, ih2, ih3⟩ := qA6.qBT k
 unfold qA6.f
 have im0 := @qA9.mono
 have im1 := @qAE.mono
 have im2 := @qAQ.mono
 exact zm
def qA6.T10 : Bool × List (List Nat × List Nat) := (true, [([], []), ([0], [0]), ([1], [1]), ([], []), ([3], [3]), ([4], [4]), ([2, 5], [2, 5]), ([6], [6]), ([7], [7]), ([7], [7]), ([8, 6, 0, 1, 2, 3, 4, 5, 6, 7, 8], [8]), ([9, 10, 0, 1, 2, 3, 4, 5, 6, 7, 8, 9, 10], [9])])
def qA6.B10 : List Nat := [0, 1, 3, 0, 8, 24, 63, 127, 255, 255, 511, 2047]
theorem qA6.tab10 : rtab .any (opsOf Tryz.f72 10) = qA6.T10 := by kernel_rfl
theorem qA6.bits10 : qEK qA6.T10.2 qA6.B10 = true := by kernel_rfl
def qA6.T14 : Bool × List (List Nat × List Nat) := (true, [([], []), ([0], [0]), ([1], [1]), ([], []), ([3], [3]), ([4], [4]), ([2, 5], [2, 5]), ([6], [6]), ([7], [7]), ([7], [7]), ([8, 6, 0, 1, 2, 3, 4, 5, 6, 7, 8], [8]), ([9, 10, 0, 1, 2, 3, 4, 5, 6, 7, 8, 9, 10], [9])])
def qA6.B14 : List Nat := [0, 1, 3, 0, 8, 24, 63, 127, 255, 255, 511, 2047]
theorem qA6.tab14 : rtab .any (opsOf Tryz.f72 14) = qA6.T14 := by kernel_rfl
theorem qA6.bits14 : qEK qA6.T14.2 qA6.B14 = true := by kernel_rfl
def qA6.T18 : Bool × List (List Nat × List Nat) := (true, [([], []), ([0], [0]), ([1], [1]), ([], []), ([3], [3]), ([4], [4]), ([2, 5], [2, 5]), ([6], [6]), ([7], [7]), ([7], [7]), ([8, 6, 0, 1, 2, 3, 4, 5, 6, 7, 8], [8]), ([9, 10, 0, 1, 2, 3, 4, 5, 6, 7, 8, 9, 10], [9])])
def qA6.B18 : List Nat := [0, 1, 3, 0, 8, 24, 63, 127, 255, 255, 511, 2047]
theorem qA6.tab18 : rtab .any (opsOf Tryz.f72 18) = qA6.T18 := by kernel_rfl
theorem qA6.bits18 : qEK qA6.T18.2 qA6.B18 = true := by kernel_rfl
def qA6.T22 : Bool × List (List Nat × List Nat) := (true, [([], []), ([0], [0]), ([], []), ([2], [2]), ([3], [3]), ([], []), ([5], [5]), ([6], [6]), ([1, 4, 7], [1, 4, 7]), ([8], [8]), ([8], [8]), ([9, 8, 0, 1, 2, 3, 4, 5, 6, 7, 8, 9, 10], [9]), ([10, 11, 0, 1, 2, 3, 4, 5, 6, 7, 8, 9, 10, 11], [10])])
def qA6.B22 : List Nat := [0, 1, 0, 4, 12, 0, 32, 96, 255, 511, 511, 2047, 4095]
theorem qA6.tab22 : rtab .any (opsOf Tryz.f72 22) = qA6.T22 := by kernel_rfl
theorem qA6.bits22 : qEK qA6.T22.2 qA6.B22 = true := by kernel_rfl
def qA6.T24 : Bool × List (List Nat × List Nat) := (true, [([], []), ([0], [0]), ([1], [1]), ([], []), ([3], [3]), ([4], [4]), ([2, 5], [2, 5]), ([6], [6]), ([6], [6]), ([7, 6, 0, 1, 2, 3, 4, 5, 6, 7, 8], [7]), ([8, 9, 0, 1, 2, 3, 4, 5, 6, 7, 8, 9], [8])])
def qA6.B24 : List Nat := [0, 1, 3, 0, 8, 24, 63, 127, 127, 511, 1023]
theorem qA6.tab24 : rtab .any (opsOf Tryz.f72 24) = qA6.T24 := by kernel_rfl
theorem qA6.bits24 : qEK qA6.T24.2 qA6.B24 = true := by kernel_rfl
def qA6.T26 : Bool × List (List Nat × List Nat) := (true, [([], []), ([0], [0]), ([1], [1]), ([], []), ([3], [3]), ([4], [4]), ([2, 5], [2, 5]), ([6], [6]), ([7], [7]), ([7], [7]), ([8, 6, 0, 1, 2, 3, 4, 5, 6, 7, 8], [8]), ([9, 10, 0, 1, 2, 3, 4, 5, 6, 7, 8, 9, 10], [9])])
def qA6.B26 : List Nat := [0, 1, 3, 0, 8, 24, 63, 127, 255, 255, 511, 2047]
theorem qA6.tab26 : rtab .any (opsOf Tryz.f72 26) = qA6.T26 := by kernel_rfl
theorem qA6.bits26 : qEK qA6.T26.2 qA6.B26 = true := by kernel_rfl
def qA6.T29 : Bool × List (List Nat × List Nat) := (true, [([], []), ([0], [0]), ([], []), ([2], [2]), ([3], [3]), ([], []), ([5], [5]), ([6], [6]), ([4, 7], [4, 7]), ([1, 8, 0, 1], [1]), ([8, 9, 0, 1, 2, 3, 4, 5, 6, 7, 8, 9], [8])])
def qA6.B29 : List Nat := [0, 1, 0, 4, 12, 0, 32, 96, 252, 511, 1023]
theorem qA6.tab29 : rtab .any (opsOf Tryz.f72 29) = qA6.T29 := by kernel_rfl
theorem qA6.bits29 : qEK qA6.T29.2 qA6.B29 = true := by kernel_rfl
theorem qA6.calls (k : Nat) (a0_0 : Int) (A0_1 : Option Addr) (c0_1 : Nat) (l0_1 : List Int) (a0_2 : Int) (a0_3 : Int) (a0_4 : ByteArray) (A1 : Option Addr) (c1 : Nat) (l1 : List Int) (a2_0 : ByteArray) (a2_1 : Int) (a2_2 : Int) (a2_3 : Bool) (A2_4 : Option Addr) (c2_4 : Nat) (l2_4 : List (S75)) (r1 : Int) (r2 : Bool) (w : World) (hr0_1 : Kd.C (Kd.int .i64) w A0_1 l0_1.length l0_1) (hc0_1 : l0_1.length ≤ c0_1) (hr1 : Kd.C (Kd.int .i64) w A1 l1.length l1) (hc1 : l1.length ≤ c1) (hr2_4 : Kd.C k75 w A2_4 l2_4.length l2_4) (hc2_4 : l2_4.length ≤ c2_4) (h : qA6.f k a0_0 l0_1 a0_2 a0_3 a0_4 l1 a2_0 a2_1 a2_2 a2_3 l2_4 = some (r1, r2)) :
  Calls Tryz.prog 72 #[.agg #[.int .i64 a0_0, .slice A0_1 l0_1.length c0_1, .int .i64 a0_2, .int .i64 a0_3, .string a0_4], .slice A1 l1.length c1, .agg #[.string a2_0, .int .i64 a2_1, .int .i64 a2_2, .bool a2_3, .slice A2_4 l2_4.length c2_4]] w fun e w' => e = .returned (.tuple #[.int .i64 r1, .bool r2]) ∧ Below w.heap.size w w' := by
 have hu79 := Tryz.underlying79
 have hu73 := Tryz.underlying73
 have HR0_1 := zq hr0_1
 have HC0_1 := zq hc0_1
 clear hr0_1 hc0_1
 have HR1 := zq hr1
 have HC1 := zq hc1
 clear hr1 hc1
 have HR2_4 := zq hr2_4
 have HC2_4 := zq hc2_4
 clear hr2_4 hc2_4
 have HB := zq (Below.refl w.heap.size w)
 have H := h
 unfold qA6.f at H
 clear h
 obtain ⟨-, c4b0, c4b1, H⟩ | ⟨c4, c4b0, c4b1, H⟩ := y4 H
 ·simp only [Option.some.injEq, Prod.mk.injEq] at H
  obtain ⟨rfl, rfl⟩ := H
  go_enter Tryz.func72, Tryz.ntmps72
  go_wp2_with (first | ((with_reducible refine qAS (N := 3) rfl ?_); (try (refine qC1 (by rfl) ?_; dsimp only)); refine boxZ 3 #[.int .i64 a0_0, .slice A0_1 l0_1.length c0_1, .int .i64 a0_2, .int .i64 a0_3, .string a0_4] 79 ?_; intro gb197 hg w5 hbox hb; have BK197 := zq (hbox); have GW197 := zg w gb197; replace HB := zB hb; clear hb hbox hg) | ((with_reducible refine qAS (N := 5) rfl ?_); (try (refine qC1 (by rfl) ?_; dsimp only)); refine boxZ 5 #[.string a2_0, .int .i64 a2_1, .int .i64 a2_2, .bool a2_3, .slice A2_4 l2_4.length c2_4] 73 ?_; intro gb198 hg w6 hbox hb; have BK198 := zq (hbox); have GW198 := zg w gb198; have NB197_198 := zl BK197 gb198; have NB198_197 := zu BK197 gb198; replace BK197 := zK BK197 hb; replace HB := zB hb; clear hb hbox hg; have hnb7 := NB197_198.out; have hnc7 := NB198_197.out; have hcz8 := bc5 BK197.out))
  go_ret2
  exact ⟨zf, zb⟩
 obtain ⟨-, c9b0, c9b1, H⟩ | ⟨c9, c9b0, c9b1, H⟩ := y4 H
 ·obtain ⟨c10, c10b0, H⟩ := y1 H
  have c10b1 : decide (0 < l1.length) = true := decide_eq_true (by omega)
  clear c10
  obtain ⟨y200, hy_⟩ : ∃ y_ : List Int, y_ = (([1] : List Int)) := ⟨_, rfl⟩
  replace H : ((qA9.f k (rd l1 0) y200).bind fun t203 => (some (1, t203))) = some (r1, r2) := zr
  have Ny200 := zq hy_
  clear hy_
  replace H := zi H
  obtain ⟨t203, A110, H⟩ := H
  have A11 := zq A110
  clear A110
  simp only [Option.some.injEq, Prod.mk.injEq] at H
  obtain ⟨rfl, rfl⟩ := H
  go_enter Tryz.func72, Tryz.ntmps72
  go_wp2_with (first | ((with_reducible refine qAS (N := 3) rfl ?_); (try (refine qC1 (by rfl) ?_; dsimp only)); refine boxZ 3 #[.int .i64 a0_0, .slice A0_1 l0_1.length c0_1, .int .i64 a0_2, .int .i64 a0_3, .string a0_4] 79 ?_; intro gb197 hg w12 hbox hb; have BK197 := zq (hbox); have GW197 := zg w gb197; replace HB := zB hb; clear hb hbox hg) | ((with_reducible refine qAS (N := 5) rfl ?_); (try (refine qC1 (by rfl) ?_; dsimp only)); refine boxZ 5 #[.string a2_0, .int .i64 a2_1, .int .i64 a2_2, .bool a2_3, .slice A2_4 l2_4.length c2_4] 73 ?_; intro gb198 hg w13 hbox hb; have BK198 := zq (hbox); have GW198 := zg w gb198; have NB197_198 := zl BK197 gb198; have NB198_197 := zu BK197 gb198; replace BK197 := zK BK197 hb; replace HB := zB hb; clear hb hbox hg; have hnb14 := NB197_198.out; have hnc14 := NB198_197.out; have hcz15 := bc5 BK197.out; have p199 : 0 ≤ (0 : Int) := (by omega); have q199 : 0 < (l1.length : Int) := zd; obtain ⟨ad199, e199, hx199_0⟩ := Kd.qCB HR1.out 0 p199 q199; cases e199; have qi199 : (0 < l1.length) = True := eq_true (by omega); (try rw [show ((0 : Int)).toNat = 0 from rfl] at hx199_0); (try rw [Addr.add_zero'] at hx199_0); replace hx199_0 := zh hx199_0; replace p199 := eq_true p199; replace q199 := eq_true q199) | ((with_reducible refine qAS (N := 27) rfl ?_); (try (refine qC1 (by rfl) ?_; dsimp only)); refine Kd.qFV (Kd.int .i64) _ 3 ?hg (N := 27) ?hd (xs := ([1] : List Int)) (inner := [.int .i64 1]) (ok := fun _ => True) (okp := fun _ => True) ?hr ?hp (fun _ hk => hk) trivial (Below.refl _ _) (Nat.le_refl _) (by simp) ?_; (case hd => rfl); (case hg => rfl); (case hr => first | (go_simp; done) | (go_simp; rfl)); (case hp => exact (Reps.one (show Kd.M (Kd.int .i64) _ _ _ 1 [.int .i64 1] from rfl) (Reps.none _ _))); intro v201 w16 ho17 hb hg_ hnew_; clear hg_ hnew_; (first | rw [← Ny200.out] at ho17 | (simp only [Int.reduceToNat] at ho17; rw [← Ny200.out] at ho17)); have HO202 := zq (Kd.qC3 ho17 (qAH zb)); replace BK197 := zK BK197 hb; replace BK198 := zK BK198 hb; replace HB := zB hb; clear hb ho17; obtain ⟨Ao18, co18, eo18⟩ := Kd.qBX HO202.out; subst eo18) | (refine qBY (some 28) Tryz.func92 #[.int .i64 (rd l1 0), .slice Ao18 y200.length co18] ?_; (with_reducible refine (qA9.calls k (rd l1 0) _ _ y200 t203 _ ?side1 ?side2 A11.out).mono ?_); (case side1 => repeat (first | exact (Kd.qAR HO202.out).2.2 | refine sC ?_)); (case side2 => exact (Kd.qAR HO202.out).2.1); rintro e w' ⟨rfl, ⟨nd, rfl⟩⟩; refine ⟨_, rfl, ?_⟩))
  go_ret2
  exact ⟨zf, zb⟩
 have HC19 := zq H
 clear H
 go_enter Tryz.func72, Tryz.ntmps72
 go_upto_if 29 with (first | ((with_reducible refine qAS (N := 3) rfl ?_); (try (refine qC1 (by rfl) ?_; dsimp only)); refine boxZ 3 #[.int .i64 a0_0, .slice A0_1 l0_1.length c0_1, .int .i64 a0_2, .int .i64 a0_3, .string a0_4] 79 ?_; intro gb197 hg w20 hbox hb; have BK197 := zq (hbox); have GW197 := zg w gb197; replace HB := zB hb; clear hb hbox hg) | ((with_reducible refine qAS (N := 5) rfl ?_); (try (refine qC1 (by rfl) ?_; dsimp only)); refine boxZ 5 #[.string a2_0, .int .i64 a2_1, .int .i64 a2_2, .bool a2_3, .slice A2_4 l2_4.length c2_4] 73 ?_; intro gb198 hg w21 hbox hb; have BK198 := zq (hbox); have GW198 := zg w gb198; have NB197_198 := zl BK197 gb198; have NB198_197 := zu BK197 gb198; replace BK197 := zK BK197 hb; replace HB := zB hb; clear hb hbox hg; have hnb22 := NB197_198.out; have hnc22 := NB198_197.out; have hcz23 := bc5 BK197.out))
 go_cut [29] (fun v29 wc => ∃ (kq : Nat) (x29_18 : Bool), v29 = .bool x29_18 ∧ qA0 (qA6.j0 kq l1 a0_0 x29_18 a0_0 l0_1 a0_2 a0_3 a0_4 a2_0 a2_1 a2_2 a2_3 l2_4 = some (r1, r2)) ∧ qA0 (kq ≤ k) ∧ qA0 (wc.heap[gb197]? = some (.cells #[.int .i64 a0_0, (.slice A0_1 l0_1.length c0_1), .int .i64 a0_2, .int .i64 a0_3, .string a0_4] 79 (0, 0))) ∧ qA0 (wc.heap[gb198]? = some (.cells #[.string a2_0, .int .i64 a2_1, .int .i64 a2_2, .bool a2_3, (.slice A2_4 l2_4.length c2_4)] 73 (0, 0))) ∧ qA0 (Below w.heap.size w wc))
 case first =>
  have H := HC19.out
  clear HC19
  obtain ⟨-, c24b0, c24b1, H⟩ | ⟨c24, c24b0, c24b1, H⟩ := y4 H
  rotate_left
  ·(first | rw [c24b0] | (simp only [qCI, qCO]; rw [c24b0]) | skip)
   have H' := zq H
   clear H
   go_wp2
   go_meet
   case rel => exact ⟨_, ((a0_0 == 6)), zs, H', ⟨by first | omega | exact Nat.le_refl _⟩, ⟨zk BK197⟩, ⟨zk BK198⟩, ⟨zb⟩⟩
  (first | rw [c24b0] | (simp only [qCI, qCO]; rw [c24b0]) | skip)
  have H' := zq H
  clear H
  go_wp2
  go_meet
  case rel => exact ⟨_, ((a0_0 == 5)), zs, H', ⟨by first | omega | exact Nat.le_refl _⟩, ⟨zk BK197⟩, ⟨zk BK198⟩, ⟨zb⟩⟩
 clear HC19 c4 c4b0 c4b1 c9 c9b0 c9b1 hcz23
 obtain ⟨kq, x29_18, rfl, HA, HJ18, BK197, BK198, HB⟩ := hcut
 obtain _ | kj18 := kq
 ·exact absurd HA.out (by simp [qA6.j0])
 have H := HA.out
 clear HA
 simp only [qA6.j0] at H
 by_cases c25 : x29_18 = true
 ·subst c25
  rw [if_pos rfl] at H
  obtain ⟨c26, c26b0, H⟩ := y1 H
  have c26b1 : decide (0 < l1.length) = true := decide_eq_true (by omega)
  clear c26
  obtain ⟨y205, hy_⟩ : ∃ y_ : List Int, y_ = (([1] : List Int)) := ⟨_, rfl⟩
  replace H : ((qA9.f kj18 (rd l1 0) y205).bind fun t208 => (if t208 = true then (if 1 < (l1.length : Int) then ((qA9.f kj18 (rd l1 1) (([1] : List Int))).bind fun t213 => (some (1, t213))) else (none)) else (some (1, false)))) = some (r1, r2) := zr
  have Ny205 := zq hy_
  clear hy_
  replace H := zi H
  obtain ⟨t208, A270, H⟩ := H
  have A27 := zq A270
  clear A270
  by_cases c28 : t208 = true
  rotate_left
  ·replace c28 := Bool.eq_false_iff.mpr c28
   subst c28
   rw [zj] at H
   simp only [Option.some.injEq, Prod.mk.injEq] at H
   obtain ⟨rfl, rfl⟩ := H
   have p204 : 0 ≤ (0 : Int) := (by omega)
   have q204 : 0 < (l1.length : Int) := zd
   obtain ⟨ad204, e204, hx204_0⟩ := Kd.qCB HR1.out 0 p204 q204
   cases e204
   have qi204 : (0 < l1.length) = True := eq_true (by omega)
   (try rw [show ((0 : Int)).toNat = 0 from rfl] at hx204_0)
   (try rw [Addr.add_zero'] at hx204_0)
   (try replace hx204_0 := zh hx204_0)
   replace p204 := eq_true p204
   replace q204 := eq_true q204
   go_wp2_with (first | ((with_reducible refine qAS (N := 35) rfl ?_); (try (refine qC1 (by rfl) ?_; dsimp only)); refine Kd.qFV (Kd.int .i64) _ 3 ?hg (N := 35) ?hd (xs := ([1] : List Int)) (inner := [.int .i64 1]) (ok := fun _ => True) (okp := fun _ => True) ?hr ?hp (fun _ hk => hk) trivial (Below.refl _ _) (Nat.le_refl _) (by simp) ?_; (case hd => rfl); (case hg => rfl); (case hr => first | (go_simp; done) | (go_simp; rfl)); (case hp => exact (Reps.one (show Kd.M (Kd.int .i64) _ _ _ 1 [.int .i64 1] from rfl) (Reps.none _ _))); intro v206 w37 ho38 hb hg_ hnew_; clear hg_ hnew_; (first | rw [← Ny205.out] at ho38 | (simp only [Int.reduceToNat] at ho38; rw [← Ny205.out] at ho38)); have HO207 := zq (Kd.qC3 ho38 (qAH zb)); replace BK197 := zK BK197 hb; replace BK198 := zK BK198 hb; replace HB := zB hb; clear hb ho38; obtain ⟨Ao39, co39, eo39⟩ := Kd.qBX HO207.out; subst eo39) | (refine qBY (some 36) Tryz.func92 #[.int .i64 (rd l1 0), .slice Ao39 y205.length co39] ?_; (with_reducible refine (qA9.calls kj18 (rd l1 0) _ _ y205 false _ ?side1 ?side2 A27.out).mono ?_); (case side1 => repeat (first | exact (Kd.qAR HO207.out).2.2 | refine sC ?_)); (case side2 => exact (Kd.qAR HO207.out).2.1); rintro e w' ⟨rfl, ⟨nd, rfl⟩⟩; refine ⟨_, rfl, ?_⟩))
   go_ret2
   exact ⟨zf, zb⟩
  subst c28
  rw [if_pos rfl] at H
  obtain ⟨c29, c29b0, H⟩ := y1 H
  have c29b1 : decide (1 < l1.length) = true := decide_eq_true (by omega)
  clear c29
  obtain ⟨y210, hy_⟩ : ∃ y_ : List Int, y_ = (([1] : List Int)) := ⟨_, rfl⟩
  replace H : ((qA9.f kj18 (rd l1 1) y210).bind fun t213 => (some (1, t213))) = some (r1, r2) := zr
  have Ny210 := zq hy_
  clear hy_
  replace H := zi H
  obtain ⟨t213, A300, H⟩ := H
  have A30 := zq A300
  clear A300
  simp only [Option.some.injEq, Prod.mk.injEq] at H
  obtain ⟨rfl, rfl⟩ := H
  have p204 : 0 ≤ (0 : Int) := (by omega)
  have q204 : 0 < (l1.length : Int) := zd
  obtain ⟨ad204, e204, hx204_0⟩ := Kd.qCB HR1.out 0 p204 q204
  cases e204
  have qi204 : (0 < l1.length) = True := eq_true (by omega)
  (try rw [show ((0 : Int)).toNat = 0 from rfl] at hx204_0)
  (try rw [Addr.add_zero'] at hx204_0)
  (try replace hx204_0 := zh hx204_0)
  replace p204 := eq_true p204
  replace q204 := eq_true q204
  go_wp2_with (first | ((with_reducible refine qAS (N := 35) rfl ?_); (try (refine qC1 (by rfl) ?_; dsimp only)); refine Kd.qFV (Kd.int .i64) _ 3 ?hg (N := 35) ?hd (xs := ([1] : List Int)) (inner := [.int .i64 1]) (ok := fun _ => True) (okp := fun _ => True) ?hr ?hp (fun _ hk => hk) trivial (Below.refl _ _) (Nat.le_refl _) (by simp) ?_; (case hd => rfl); (case hg => rfl); (case hr => first | (go_simp; done) | (go_simp; rfl)); (case hp => exact (Reps.one (show Kd.M (Kd.int .i64) _ _ _ 1 [.int .i64 1] from rfl) (Reps.none _ _))); intro v206 w31 ho32 hb hg_ hnew_; clear hg_ hnew_; (first | rw [← Ny205.out] at ho32 | (simp only [Int.reduceToNat] at ho32; rw [← Ny205.out] at ho32)); have HO207 := zq (Kd.qC3 ho32 (qAH zb)); replace BK197 := zK BK197 hb; replace BK198 := zK BK198 hb; replace HB := zB hb; clear hb ho32; obtain ⟨Ao33, co33, eo33⟩ := Kd.qBX HO207.out; subst eo33) | (refine qBY (some 36) Tryz.func92 #[.int .i64 (rd l1 0), .slice Ao33 y205.length co33] ?_; (with_reducible refine (qA9.calls kj18 (rd l1 0) _ _ y205 true _ ?side1 ?side2 A27.out).mono ?_); (case side1 => repeat (first | exact (Kd.qAR HO207.out).2.2 | refine sC ?_)); (case side2 => exact (Kd.qAR HO207.out).2.1); rintro e w' ⟨rfl, ⟨nd, rfl⟩⟩; refine ⟨_, rfl, ?_⟩; have p209 : 0 ≤ (1 : Int) := (by omega); have q209 : 1 < (l1.length : Int) := zd; obtain ⟨ad209, e209, hx209_0⟩ := Kd.qCB HR1.out 1 p209 q209; obtain rfl : ad204 = ad209 := (by injection e209); (try simp only [show (1 : Int).toNat = 1 from rfl, Nat.reduceMul, Nat.reduceEqDiff, Go.Addr.add, ↓reduceIte] at hx209_0); have qi209 : (1 < l1.length) = True := eq_true (by omega); (try rw [show ((1 : Int)).toNat = 1 from rfl] at hx209_0); replace hx209_0 := zh hx209_0; replace p209 := eq_true p209; replace q209 := eq_true q209) | ((with_reducible refine qAS (N := 41) rfl ?_); (try (refine qC1 (by rfl) ?_; dsimp only)); refine Kd.qFV (Kd.int .i64) _ 3 ?hg (N := 41) ?hd (xs := ([1] : List Int)) (inner := [.int .i64 1]) (ok := fun _ => True) (okp := fun _ => True) ?hr ?hp (fun _ hk => hk) trivial (Below.refl _ _) (Nat.le_refl _) (by simp) ?_; (case hd => rfl); (case hg => rfl); (case hr => first | (go_simp; done) | (go_simp; rfl)); (case hp => exact (Reps.one (show Kd.M (Kd.int .i64) _ _ _ 1 [.int .i64 1] from rfl) (Reps.none _ _))); intro v211 w34 ho35 hb hg_ hnew_; clear hg_ hnew_; (first | rw [← Ny210.out] at ho35 | (simp only [Int.reduceToNat] at ho35; rw [← Ny210.out] at ho35)); have HO212 := zq (Kd.qC3 (Kd.R_new' ho35 (Kd.R_lt (by (with_reducible repeat (first | apply Kd.R_alloc | apply Kd.R_drewN | apply Kd.R_drew)); exact HO207.out))) (qAH zb)); replace HO207 := zq (Kd.R_elder' (by (with_reducible repeat (first | apply Kd.R_alloc | apply Kd.R_drewN | apply Kd.R_drew)); exact HO207.out) (Kd.qEV ho35) hb); replace BK197 := zK BK197 hb; replace BK198 := zK BK198 hb; replace HB := zB hb; clear hb ho35; obtain ⟨Ao36, co36, eo36⟩ := Kd.qBX HO212.out; subst eo36) | (go_at_call 92; (with_reducible refine (qA9.calls kj18 (rd l1 1) _ _ y210 t213 _ ?side1 ?side2 A30.out).mono ?_); (case side1 => repeat (first | exact (Kd.qAR HO212.out).2.2 | refine sC ?_)); (case side2 => exact (Kd.qAR HO212.out).2.1); rintro e w' ⟨rfl, ⟨nd, rfl⟩⟩))
  go_ret2
  exact ⟨zf, zb⟩
 replace c25 := Bool.eq_false_iff.mpr c25
 subst c25
 rw [zj] at H
 obtain ⟨-, c40b0, c40b1, H⟩ | ⟨c40, c40b0, c40b1, H⟩ := y4 H
 ·obtain ⟨c41, c41b0, H⟩ := y1 H
  have c41b1 : decide (0 < l1.length) = true := decide_eq_true (by omega)
  clear c41
  obtain ⟨c42, c42b0, H⟩ := y1 H
  have c42b1 : decide (1 < l1.length) = true := decide_eq_true (by omega)
  clear c42
  replace H := zi H
  obtain ⟨⟨t216, t217⟩, A430, H⟩ := H
  replace H : (some (1, t217)) = some (r1, r2) := H
  have A43 := zq A430
  clear A430
  simp only [Option.some.injEq, Prod.mk.injEq] at H
  obtain ⟨rfl, rfl⟩ := H
  try go_wp2
  replace BK197 := zq (qB7 BK197.out)
  replace BK198 := zq (qB7 BK198.out)
  replace HB := zq (qBP HB.out)
  have p214 : 0 ≤ (0 : Int) := (by omega)
  have q214 : 0 < (l1.length : Int) := zd
  obtain ⟨ad214, e214, hx214_0⟩ := Kd.qCB HR1.out 0 p214 q214
  have hw214_0 := hx214_0
  (try rw [show ((0 : Int)).toNat = 0 from rfl] at hw214_0)
  (try rw [Addr.add_zero'] at hw214_0)
  cases e214
  have qi214 : (0 < l1.length) = True := eq_true (by omega)
  (try rw [show ((0 : Int)).toNat = 0 from rfl] at hx214_0)
  (try rw [Addr.add_zero'] at hx214_0)
  (try replace hx214_0 := zh hx214_0)
  replace p214 := eq_true p214
  replace q214 := eq_true q214
  have p215 : 0 ≤ (1 : Int) := (by omega)
  have q215 : 1 < (l1.length : Int) := zd
  obtain ⟨ad215, e215, hx215_0⟩ := Kd.qCB HR1.out 1 p215 q215
  have hw215_0 := hx215_0
  (try rw [show ((1 : Int)).toNat = 1 from rfl] at hw215_0)
  (try simp only [Nat.reduceMul, Nat.reduceEqDiff, Go.Addr.add, ↓reduceIte] at hw215_0)
  obtain rfl : ad214 = ad215 := (by injection e215)
  (try simp only [show (1 : Int).toNat = 1 from rfl, Nat.reduceMul, Nat.reduceEqDiff, Go.Addr.add, ↓reduceIte] at hx215_0)
  have qi215 : (1 < l1.length) = True := eq_true (by omega)
  (try replace hx215_0 := zh hx215_0)
  replace p215 := eq_true p215
  replace q215 := eq_true q215
  refine qF4 (n := 12) (S := fun w' => w'.cell? ad214 = some (.int .i64 (rd l1 0)) ∧ w'.cell? ⟨ad214.block, ad214.off + 1, none⟩ = some (.int .i64 (rd l1 1))) (ds := []) (bs 12 0) (by kernel_rfl) rfl rfl ⟨(zh hw214_0), (zh hw215_0)⟩ (fun hHeld => ?_); refine qDF qA6.tab10 qA6.bits10 (fun HT_ HW_ => ?_)
  generalize wc.drew = w44 at BK197 BK198 HB hx214_0 hx215_0 hHeld ⊢
  refine qBK (i := 0) (N := some 47) (bs 12 1) ?_
  refine qBK (i := 1) (N := some 48) (bs 12 3) ?_
  refine qBK (i := 3) (N := some 50) (bs 12 11) ?_
  refine qBK (i := 4) (N := some 51) (bs 12 27) ?_
  refine qEM (i := 2) (N := some 49) (bs 12 31) ?_
  refine qEM (i := 5) (N := some 52) (bs 12 63) ?_
  refine one_ (i := 6) (N := some 53) (bs 12 127) rfl rfl (qDU HT_.out (by kernel_rfl)) (by decide) (fun K hK => ?_)
  refine qFZ Tryz.func93 (by kernel_rfl) rfl #[.int .i64 (rd l1 0), .int .i64 (rd l1 1)] (by rfl) rfl rfl (by (try simp only [List.map_toArray, List.map_cons, List.map_nil]); first | done | rfl | (simp only [List.length_drop, List.length_take]; rfl)) ?_
  with_reducible refine (qCK.calls (rd l1 0) (rd l1 1) t216 t217 _ A43.out).mono ?_
  rintro e w' ⟨rfl, ⟨nd, rfl⟩⟩
  refine ⟨_, rfl, ?_⟩
  refine hK.out _ _ ⟨(zh hw214_0), (zh hw215_0)⟩ (fun hHeld => ?_)
  clear hK K
  refine qFQ ?_
  refine qBK (i := 7) (N := some 46) (bs 12 255) ?_
  refine qBK (i := 8) (N := some 54) (bs 12 511) ?_
  refine qBK (i := 9) (N := some 55) (bs 12 1023) ?_
  refine qBK (i := 10) (N := some 8) (bs 12 2047) ?_
  refine qBK (i := 11) (N := some 9) (bs 12 4095) ?_
  refine done_ (qCQ HT_.out (by kernel_rfl)) ?_
  try go_wp2
  go_ret2
  exact ⟨zf, zb⟩
 have HC45 := zq H
 clear H
 go_upto_if 57 with (fail)
 go_cut [57] (fun v57 wc => ∃ (kq : Nat) (x57_44 : Bool), v57 = .bool x57_44 ∧ qA0 (qA6.j1 kq l1 a0_0 x57_44 a0_0 l0_1 a0_2 a0_3 a0_4 a2_0 a2_1 a2_2 a2_3 l2_4 = some (r1, r2)) ∧ qA0 (kq ≤ kj18) ∧ qA0 (wc.heap[gb197]? = some (.cells #[.int .i64 a0_0, (.slice A0_1 l0_1.length c0_1), .int .i64 a0_2, .int .i64 a0_3, .string a0_4] 79 (0, 0))) ∧ qA0 (wc.heap[gb198]? = some (.cells #[.string a2_0, .int .i64 a2_1, .int .i64 a2_2, .bool a2_3, (.slice A2_4 l2_4.length c2_4)] 73 (0, 0))) ∧ qA0 (Below w.heap.size w wc))
 case first =>
  have H := HC45.out
  clear HC45
  obtain ⟨-, c46b0, c46b1, H⟩ | ⟨c46, c46b0, c46b1, H⟩ := y4 H
  rotate_left
  ·(first | rw [c46b0] | (simp only [qCI, qCO]; rw [c46b0]) | skip)
   have H' := zq H
   clear H
   go_wp2
   go_meet
   case rel => exact ⟨_, ((a0_0 == 8)), zs, H', ⟨by have := HJ18.out; first | omega | exact Nat.le_refl _⟩, ⟨zk BK197⟩, ⟨zk BK198⟩, ⟨zb⟩⟩
  (first | rw [c46b0] | (simp only [qCI, qCO]; rw [c46b0]) | skip)
  have H' := zq H
  clear H
  go_wp2
  go_meet
  case rel => exact ⟨_, ((a0_0 == 7)), zs, H', ⟨by have := HJ18.out; first | omega | exact Nat.le_refl _⟩, ⟨zk BK197⟩, ⟨zk BK198⟩, ⟨zb⟩⟩
 clear HC45 c40 c40b0 c40b1
 obtain ⟨kq, x57_44, rfl, HA, HJ44, BK197, BK198, HB⟩ := hcut
 obtain _ | kj44 := kq
 ·exact absurd HA.out (by simp [qA6.j1])
 have H := HA.out
 clear HA
 simp only [qA6.j1] at H
 by_cases c47 : x57_44 = true
 ·subst c47
  rw [if_pos rfl] at H
  obtain ⟨c48, c48b0, H⟩ := y1 H
  have c48b1 : decide (0 < l1.length) = true := decide_eq_true (by omega)
  clear c48
  obtain ⟨c49, c49b0, H⟩ := y1 H
  have c49b1 : decide (1 < l1.length) = true := decide_eq_true (by omega)
  clear c49
  replace H := zi H
  obtain ⟨⟨t220, t221⟩, A500, H⟩ := H
  dsimp only at H
  have A50 := zq A500
  clear A500
  by_cases c51 : t221 = true
  ·subst c51
   rw [if_pos rfl] at H
   simp only [Option.some.injEq, Prod.mk.injEq] at H
   obtain ⟨rfl, rfl⟩ := H
   try go_wp2
   replace BK197 := zq (qB7 BK197.out)
   replace BK198 := zq (qB7 BK198.out)
   replace HB := zq (qBP HB.out)
   have p218 : 0 ≤ (0 : Int) := (by omega)
   have q218 : 0 < (l1.length : Int) := zd
   obtain ⟨ad218, e218, hx218_0⟩ := Kd.qCB HR1.out 0 p218 q218
   have hw218_0 := hx218_0
   (try rw [show ((0 : Int)).toNat = 0 from rfl] at hw218_0)
   (try rw [Addr.add_zero'] at hw218_0)
   cases e218
   have qi218 : (0 < l1.length) = True := eq_true (by omega)
   (try rw [show ((0 : Int)).toNat = 0 from rfl] at hx218_0)
   (try rw [Addr.add_zero'] at hx218_0)
   (try replace hx218_0 := zh hx218_0)
   replace p218 := eq_true p218
   replace q218 := eq_true q218
   have p219 : 0 ≤ (1 : Int) := (by omega)
   have q219 : 1 < (l1.length : Int) := zd
   obtain ⟨ad219, e219, hx219_0⟩ := Kd.qCB HR1.out 1 p219 q219
   have hw219_0 := hx219_0
   (try rw [show ((1 : Int)).toNat = 1 from rfl] at hw219_0)
   (try simp only [Nat.reduceMul, Nat.reduceEqDiff, Go.Addr.add, ↓reduceIte] at hw219_0)
   obtain rfl : ad218 = ad219 := (by injection e219)
   (try simp only [show (1 : Int).toNat = 1 from rfl, Nat.reduceMul, Nat.reduceEqDiff, Go.Addr.add, ↓reduceIte] at hx219_0)
   have qi219 : (1 < l1.length) = True := eq_true (by omega)
   (try replace hx219_0 := zh hx219_0)
   replace p219 := eq_true p219
   replace q219 := eq_true q219
   refine qF4 (n := 12) (S := fun w' => w'.cell? ad218 = some (.int .i64 (rd l1 0)) ∧ w'.cell? ⟨ad218.block, ad218.off + 1, none⟩ = some (.int .i64 (rd l1 1))) (ds := []) (bs 12 0) (by kernel_rfl) rfl rfl ⟨(zh hw218_0), (zh hw219_0)⟩ (fun hHeld => ?_); refine qDF qA6.tab14 qA6.bits14 (fun HT_ HW_ => ?_)
   generalize wc.drew = w52 at BK197 BK198 HB hx218_0 hx219_0 hHeld ⊢
   refine qBK (i := 0) (N := some 61) (bs 12 1) ?_
   refine qBK (i := 1) (N := some 62) (bs 12 3) ?_
   refine qBK (i := 3) (N := some 64) (bs 12 11) ?_
   refine qBK (i := 4) (N := some 65) (bs 12 27) ?_
   refine qEM (i := 2) (N := some 63) (bs 12 31) ?_
   refine qEM (i := 5) (N := some 66) (bs 12 63) ?_
   refine one_ (i := 6) (N := some 67) (bs 12 127) rfl rfl (qDU HT_.out (by kernel_rfl)) (by decide) (fun K hK => ?_)
   refine qFZ Tryz.func93 (by kernel_rfl) rfl #[.int .i64 (rd l1 0), .int .i64 (rd l1 1)] (by rfl) rfl rfl (by (try simp only [List.map_toArray, List.map_cons, List.map_nil]); first | done | rfl | (simp only [List.length_drop, List.length_take]; rfl)) ?_
   with_reducible refine (qCK.calls (rd l1 0) (rd l1 1) t220 true _ A50.out).mono ?_
   rintro e w' ⟨rfl, ⟨nd, rfl⟩⟩
   refine ⟨_, rfl, ?_⟩
   refine hK.out _ _ ⟨(zh hw218_0), (zh hw219_0)⟩ (fun hHeld => ?_)
   clear hK K
   refine qFQ ?_
   refine qBK (i := 7) (N := some 60) (bs 12 255) ?_
   refine qBK (i := 8) (N := some 68) (bs 12 511) ?_
   refine qBK (i := 9) (N := some 69) (bs 12 1023) ?_
   refine qBK (i := 10) (N := some 10) (bs 12 2047) ?_
   refine qBK (i := 11) (N := some 11) (bs 12 4095) ?_
   refine done_ (qCQ HT_.out (by kernel_rfl)) ?_
   try go_wp2
   go_ret2
   exact ⟨zf, zb⟩
  replace c51 := Bool.eq_false_iff.mpr c51
  subst c51
  rw [zj] at H
  simp only [Option.some.injEq, Prod.mk.injEq] at H
  obtain ⟨rfl, rfl⟩ := H
  try go_wp2
  replace BK197 := zq (qB7 BK197.out)
  replace BK198 := zq (qB7 BK198.out)
  replace HB := zq (qBP HB.out)
  have p218 : 0 ≤ (0 : Int) := (by omega)
  have q218 : 0 < (l1.length : Int) := zd
  obtain ⟨ad218, e218, hx218_0⟩ := Kd.qCB HR1.out 0 p218 q218
  have hw218_0 := hx218_0
  (try rw [show ((0 : Int)).toNat = 0 from rfl] at hw218_0)
  (try rw [Addr.add_zero'] at hw218_0)
  cases e218
  have qi218 : (0 < l1.length) = True := eq_true (by omega)
  (try rw [show ((0 : Int)).toNat = 0 from rfl] at hx218_0)
  (try rw [Addr.add_zero'] at hx218_0)
  (try replace hx218_0 := zh hx218_0)
  replace p218 := eq_true p218
  replace q218 := eq_true q218
  have p219 : 0 ≤ (1 : Int) := (by omega)
  have q219 : 1 < (l1.length : Int) := zd
  obtain ⟨ad219, e219, hx219_0⟩ := Kd.qCB HR1.out 1 p219 q219
  have hw219_0 := hx219_0
  (try rw [show ((1 : Int)).toNat = 1 from rfl] at hw219_0)
  (try simp only [Nat.reduceMul, Nat.reduceEqDiff, Go.Addr.add, ↓reduceIte] at hw219_0)
  obtain rfl : ad218 = ad219 := (by injection e219)
  (try simp only [show (1 : Int).toNat = 1 from rfl, Nat.reduceMul, Nat.reduceEqDiff, Go.Addr.add, ↓reduceIte] at hx219_0)
  have qi219 : (1 < l1.length) = True := eq_true (by omega)
  (try replace hx219_0 := zh hx219_0)
  replace p219 := eq_true p219
  replace q219 := eq_true q219
  refine qF4 (n := 12) (S := fun w' => w'.cell? ad218 = some (.int .i64 (rd l1 0)) ∧ w'.cell? ⟨ad218.block, ad218.off + 1, none⟩ = some (.int .i64 (rd l1 1))) (ds := []) (bs 12 0) (by kernel_rfl) rfl rfl ⟨(zh hw218_0), (zh hw219_0)⟩ (fun hHeld => ?_); refine qDF qA6.tab14 qA6.bits14 (fun HT_ HW_ => ?_)
  generalize wc.drew = w53 at BK197 BK198 HB hx218_0 hx219_0 hHeld ⊢
  refine qBK (i := 0) (N := some 61) (bs 12 1) ?_
  refine qBK (i := 1) (N := some 62) (bs 12 3) ?_
  refine qBK (i := 3) (N := some 64) (bs 12 11) ?_
  refine qBK (i := 4) (N := some 65) (bs 12 27) ?_
  refine qEM (i := 2) (N := some 63) (bs 12 31) ?_
  refine qEM (i := 5) (N := some 66) (bs 12 63) ?_
  refine one_ (i := 6) (N := some 67) (bs 12 127) rfl rfl (qDU HT_.out (by kernel_rfl)) (by decide) (fun K hK => ?_)
  refine qFZ Tryz.func93 (by kernel_rfl) rfl #[.int .i64 (rd l1 0), .int .i64 (rd l1 1)] (by rfl) rfl rfl (by (try simp only [List.map_toArray, List.map_cons, List.map_nil]); first | done | rfl | (simp only [List.length_drop, List.length_take]; rfl)) ?_
  with_reducible refine (qCK.calls (rd l1 0) (rd l1 1) t220 false _ A50.out).mono ?_
  rintro e w' ⟨rfl, ⟨nd, rfl⟩⟩
  refine ⟨_, rfl, ?_⟩
  refine hK.out _ _ ⟨(zh hw218_0), (zh hw219_0)⟩ (fun hHeld => ?_)
  clear hK K
  refine qFQ ?_
  refine qBK (i := 7) (N := some 60) (bs 12 255) ?_
  refine qBK (i := 8) (N := some 68) (bs 12 511) ?_
  refine qBK (i := 9) (N := some 69) (bs 12 1023) ?_
  refine qBK (i := 10) (N := some 10) (bs 12 2047) ?_
  refine qBK (i := 11) (N := some 11) (bs 12 4095) ?_
  refine done_ (qCQ HT_.out (by kernel_rfl)) ?_
  try go_wp2
  go_ret2
  exact ⟨zf, zb⟩
 replace c47 := Bool.eq_false_iff.mpr c47
 subst c47
 rw [zj] at H
 have HC54 := zq H
 clear H
 go_upto_if 75 with (fail)
 go_cut [75] (fun v75 wc => ∃ (kq : Nat) (x75_53 : Bool), v75 = .bool x75_53 ∧ qA0 (qA6.j2 kq l1 a0_0 x75_53 a0_0 l0_1 a0_2 a0_3 a0_4 a2_0 a2_1 a2_2 a2_3 l2_4 = some (r1, r2)) ∧ qA0 (kq ≤ kj44) ∧ qA0 (wc.heap[gb197]? = some (.cells #[.int .i64 a0_0, (.slice A0_1 l0_1.length c0_1), .int .i64 a0_2, .int .i64 a0_3, .string a0_4] 79 (0, 0))) ∧ qA0 (wc.heap[gb198]? = some (.cells #[.string a2_0, .int .i64 a2_1, .int .i64 a2_2, .bool a2_3, (.slice A2_4 l2_4.length c2_4)] 73 (0, 0))) ∧ qA0 (Below w.heap.size w wc))
 case first =>
  have H := HC54.out
  clear HC54
  obtain ⟨-, c55b0, c55b1, H⟩ | ⟨c55, c55b0, c55b1, H⟩ := y4 H
  rotate_left
  ·(first | rw [c55b0] | (simp only [qCI, qCO]; rw [c55b0]) | skip)
   have H' := zq H
   clear H
   go_wp2
   go_meet
   case rel => exact ⟨_, ((a0_0 == 14)), zs, H', ⟨by have := HJ18.out; have := HJ44.out; first | omega | exact Nat.le_refl _⟩, ⟨zk BK197⟩, ⟨zk BK198⟩, ⟨zb⟩⟩
  (first | rw [c55b0] | (simp only [qCI, qCO]; rw [c55b0]) | skip)
  have H' := zq H
  clear H
  go_wp2
  go_meet
  case rel => exact ⟨_, ((a0_0 == 13)), zs, H', ⟨by have := HJ18.out; have := HJ44.out; first | omega | exact Nat.le_refl _⟩, ⟨zk BK197⟩, ⟨zk BK198⟩, ⟨zb⟩⟩
 clear HC54
 obtain ⟨kq, x75_53, rfl, HA, HJ53, BK197, BK198, HB⟩ := hcut
 obtain _ | kj53 := kq
 ·exact absurd HA.out (by simp [qA6.j2])
 have H := HA.out
 clear HA
 simp only [qA6.j2] at H
 by_cases c56 : x75_53 = true
 ·subst c56
  rw [if_pos rfl] at H
  obtain ⟨c57, c57b0, H⟩ := y1 H
  have c57b1 : decide (0 < l1.length) = true := decide_eq_true (by omega)
  clear c57
  obtain ⟨c58, c58b0, H⟩ := y1 H
  have c58b1 : decide (1 < l1.length) = true := decide_eq_true (by omega)
  clear c58
  replace H := zi H
  obtain ⟨⟨t224, t225⟩, A590, H⟩ := H
  dsimp only at H
  have A59 := zq A590
  clear A590
  by_cases c60 : t225 = true
  ·subst c60
   rw [if_pos rfl] at H
   simp only [Option.some.injEq, Prod.mk.injEq] at H
   obtain ⟨rfl, rfl⟩ := H
   try go_wp2
   replace BK197 := zq (qB7 BK197.out)
   replace BK198 := zq (qB7 BK198.out)
   replace HB := zq (qBP HB.out)
   have p222 : 0 ≤ (0 : Int) := (by omega)
   have q222 : 0 < (l1.length : Int) := zd
   obtain ⟨ad222, e222, hx222_0⟩ := Kd.qCB HR1.out 0 p222 q222
   have hw222_0 := hx222_0
   (try rw [show ((0 : Int)).toNat = 0 from rfl] at hw222_0)
   (try rw [Addr.add_zero'] at hw222_0)
   cases e222
   have qi222 : (0 < l1.length) = True := eq_true (by omega)
   (try rw [show ((0 : Int)).toNat = 0 from rfl] at hx222_0)
   (try rw [Addr.add_zero'] at hx222_0)
   (try replace hx222_0 := zh hx222_0)
   replace p222 := eq_true p222
   replace q222 := eq_true q222
   have p223 : 0 ≤ (1 : Int) := (by omega)
   have q223 : 1 < (l1.length : Int) := zd
   obtain ⟨ad223, e223, hx223_0⟩ := Kd.qCB HR1.out 1 p223 q223
   have hw223_0 := hx223_0
   (try rw [show ((1 : Int)).toNat = 1 from rfl] at hw223_0)
   (try simp only [Nat.reduceMul, Nat.reduceEqDiff, Go.Addr.add, ↓reduceIte] at hw223_0)
   obtain rfl : ad222 = ad223 := (by injection e223)
   (try simp only [show (1 : Int).toNat = 1 from rfl, Nat.reduceMul, Nat.reduceEqDiff, Go.Addr.add, ↓reduceIte] at hx223_0)
   have qi223 : (1 < l1.length) = True := eq_true (by omega)
   (try replace hx223_0 := zh hx223_0)
   replace p223 := eq_true p223
   replace q223 := eq_true q223
   refine qF4 (n := 12) (S := fun w' => w'.cell? ad222 = some (.int .i64 (rd l1 0)) ∧ w'.cell? ⟨ad222.block, ad222.off + 1, none⟩ = some (.int .i64 (rd l1 1))) (ds := []) (bs 12 0) (by kernel_rfl) rfl rfl ⟨(zh hw222_0), (zh hw223_0)⟩ (fun hHeld => ?_); refine qDF qA6.tab18 qA6.bits18 (fun HT_ HW_ => ?_)
   generalize wc.drew = w61 at BK197 BK198 HB hx222_0 hx223_0 hHeld ⊢
   refine qBK (i := 0) (N := some 79) (bs 12 1) ?_
   refine qBK (i := 1) (N := some 80) (bs 12 3) ?_
   refine qBK (i := 3) (N := some 82) (bs 12 11) ?_
   refine qBK (i := 4) (N := some 83) (bs 12 27) ?_
   refine qEM (i := 2) (N := some 81) (bs 12 31) ?_
   refine qEM (i := 5) (N := some 84) (bs 12 63) ?_
   refine one_ (i := 6) (N := some 85) (bs 12 127) rfl rfl (qDU HT_.out (by kernel_rfl)) (by decide) (fun K hK => ?_)
   refine qFZ Tryz.func93 (by kernel_rfl) rfl #[.int .i64 (rd l1 0), .int .i64 (rd l1 1)] (by rfl) rfl rfl (by (try simp only [List.map_toArray, List.map_cons, List.map_nil]); first | done | rfl | (simp only [List.length_drop, List.length_take]; rfl)) ?_
   with_reducible refine (qCK.calls (rd l1 0) (rd l1 1) t224 true _ A59.out).mono ?_
   rintro e w' ⟨rfl, ⟨nd, rfl⟩⟩
   refine ⟨_, rfl, ?_⟩
   refine hK.out _ _ ⟨(zh hw222_0), (zh hw223_0)⟩ (fun hHeld => ?_)
   clear hK K
   refine qFQ ?_
   refine qBK (i := 7) (N := some 78) (bs 12 255) ?_
   refine qBK (i := 8) (N := some 86) (bs 12 511) ?_
   refine qBK (i := 9) (N := some 87) (bs 12 1023) ?_
   refine qBK (i := 10) (N := some 12) (bs 12 2047) ?_
   refine qBK (i := 11) (N := some 13) (bs 12 4095) ?_
   refine done_ (qCQ HT_.out (by kernel_rfl)) ?_
   try go_wp2
   go_ret2
   exact ⟨zf, zb⟩
  replace c60 := Bool.eq_false_iff.mpr c60
  subst c60
  rw [zj] at H
  simp only [Option.some.injEq, Prod.mk.injEq] at H
  obtain ⟨rfl, rfl⟩ := H
  try go_wp2
  replace BK197 := zq (qB7 BK197.out)
  replace BK198 := zq (qB7 BK198.out)
  replace HB := zq (qBP HB.out)
  have p222 : 0 ≤ (0 : Int) := (by omega)
  have q222 : 0 < (l1.length : Int) := zd
  obtain ⟨ad222, e222, hx222_0⟩ := Kd.qCB HR1.out 0 p222 q222
  have hw222_0 := hx222_0
  (try rw [show ((0 : Int)).toNat = 0 from rfl] at hw222_0)
  (try rw [Addr.add_zero'] at hw222_0)
  cases e222
  have qi222 : (0 < l1.length) = True := eq_true (by omega)
  (try rw [show ((0 : Int)).toNat = 0 from rfl] at hx222_0)
  (try rw [Addr.add_zero'] at hx222_0)
  (try replace hx222_0 := zh hx222_0)
  replace p222 := eq_true p222
  replace q222 := eq_true q222
  have p223 : 0 ≤ (1 : Int) := (by omega)
  have q223 : 1 < (l1.length : Int) := zd
  obtain ⟨ad223, e223, hx223_0⟩ := Kd.qCB HR1.out 1 p223 q223
  have hw223_0 := hx223_0
  (try rw [show ((1 : Int)).toNat = 1 from rfl] at hw223_0)
  (try simp only [Nat.reduceMul, Nat.reduceEqDiff, Go.Addr.add, ↓reduceIte] at hw223_0)
  obtain rfl : ad222 = ad223 := (by injection e223)
  (try simp only [show (1 : Int).toNat = 1 from rfl, Nat.reduceMul, Nat.reduceEqDiff, Go.Addr.add, ↓reduceIte] at hx223_0)
  have qi223 : (1 < l1.length) = True := eq_true (by omega)
  (try replace hx223_0 := zh hx223_0)
  replace p223 := eq_true p223
  replace q223 := eq_true q223
  refine qF4 (n := 12) (S := fun w' => w'.cell? ad222 = some (.int .i64 (rd l1 0)) ∧ w'.cell? ⟨ad222.block, ad222.off + 1, none⟩ = some (.int .i64 (rd l1 1))) (ds := []) (bs 12 0) (by kernel_rfl) rfl rfl ⟨(zh hw222_0), (zh hw223_0)⟩ (fun hHeld => ?_); refine qDF qA6.tab18 qA6.bits18 (fun HT_ HW_ => ?_)
  generalize wc.drew = w62 at BK197 BK198 HB hx222_0 hx223_0 hHeld ⊢
  refine qBK (i := 0) (N := some 79) (bs 12 1) ?_
  refine qBK (i := 1) (N := some 80) (bs 12 3) ?_
  refine qBK (i := 3) (N := some 82) (bs 12 11) ?_
  refine qBK (i := 4) (N := some 83) (bs 12 27) ?_
  refine qEM (i := 2) (N := some 81) (bs 12 31) ?_
  refine qEM (i := 5) (N := some 84) (bs 12 63) ?_
  refine one_ (i := 6) (N := some 85) (bs 12 127) rfl rfl (qDU HT_.out (by kernel_rfl)) (by decide) (fun K hK => ?_)
  refine qFZ Tryz.func93 (by kernel_rfl) rfl #[.int .i64 (rd l1 0), .int .i64 (rd l1 1)] (by rfl) rfl rfl (by (try simp only [List.map_toArray, List.map_cons, List.map_nil]); first | done | rfl | (simp only [List.length_drop, List.length_take]; rfl)) ?_
  with_reducible refine (qCK.calls (rd l1 0) (rd l1 1) t224 false _ A59.out).mono ?_
  rintro e w' ⟨rfl, ⟨nd, rfl⟩⟩
  refine ⟨_, rfl, ?_⟩
  refine hK.out _ _ ⟨(zh hw222_0), (zh hw223_0)⟩ (fun hHeld => ?_)
  clear hK K
  refine qFQ ?_
  refine qBK (i := 7) (N := some 78) (bs 12 255) ?_
  refine qBK (i := 8) (N := some 86) (bs 12 511) ?_
  refine qBK (i := 9) (N := some 87) (bs 12 1023) ?_
  refine qBK (i := 10) (N := some 12) (bs 12 2047) ?_
  refine qBK (i := 11) (N := some 13) (bs 12 4095) ?_
  refine done_ (qCQ HT_.out (by kernel_rfl)) ?_
  try go_wp2
  go_ret2
  exact ⟨zf, zb⟩
 replace c56 := Bool.eq_false_iff.mpr c56
 subst c56
 rw [zj] at H
 have HC63 := zq H
 clear H
 go_upto_if 94 with (fail)
 go_cut [94] (fun v94 wc => ∃ (kq : Nat) (x94_62 : Bool), v94 = .bool x94_62 ∧ qA0 (qA6.j3 kq l1 a0_0 x94_62 a0_0 l0_1 a0_2 a0_3 a0_4 a2_0 a2_1 a2_2 a2_3 l2_4 = some (r1, r2)) ∧ qA0 (kq ≤ kj53) ∧ qA0 (wc.heap[gb197]? = some (.cells #[.int .i64 a0_0, (.slice A0_1 l0_1.length c0_1), .int .i64 a0_2, .int .i64 a0_3, .string a0_4] 79 (0, 0))) ∧ qA0 (wc.heap[gb198]? = some (.cells #[.string a2_0, .int .i64 a2_1, .int .i64 a2_2, .bool a2_3, (.slice A2_4 l2_4.length c2_4)] 73 (0, 0))) ∧ qA0 (Below w.heap.size w wc))
 case first =>
  have H := HC63.out
  clear HC63
  obtain ⟨-, c64b0, c64b1, H⟩ | ⟨c64, c64b0, c64b1, H⟩ := y4 H
  rotate_left
  ·(first | rw [c64b0] | (simp only [qCI, qCO]; rw [c64b0]) | skip)
   have H' := zq H
   clear H
   go_wp2
   go_meet
   case rel => exact ⟨_, ((a0_0 == 11)), zs, H', ⟨by have := HJ18.out; have := HJ44.out; have := HJ53.out; first | omega | exact Nat.le_refl _⟩, ⟨zk BK197⟩, ⟨zk BK198⟩, ⟨zb⟩⟩
  (first | rw [c64b0] | (simp only [qCI, qCO]; rw [c64b0]) | skip)
  have H' := zq H
  clear H
  go_wp2
  go_meet
  case rel => exact ⟨_, ((a0_0 == 10)), zs, H', ⟨by have := HJ18.out; have := HJ44.out; have := HJ53.out; first | omega | exact Nat.le_refl _⟩, ⟨zk BK197⟩, ⟨zk BK198⟩, ⟨zb⟩⟩
 clear HC63
 obtain ⟨kq, x94_62, rfl, HA, HJ62, BK197, BK198, HB⟩ := hcut
 obtain _ | kj62 := kq
 ·exact absurd HA.out (by simp [qA6.j3])
 have H := HA.out
 clear HA
 simp only [qA6.j3] at H
 by_cases c65 : x94_62 = true
 ·subst c65
  rw [if_pos rfl] at H
  obtain ⟨c66, c66b0, H⟩ := y1 H
  have c66b1 : decide (0 < l1.length) = true := decide_eq_true (by omega)
  clear c66
  obtain ⟨c67, c67b0, H⟩ := y1 H
  have c67b1 : decide (1 < l1.length) = true := decide_eq_true (by omega)
  clear c67
  replace H := zi H
  obtain ⟨⟨t228, t229⟩, A680, H⟩ := H
  replace H : (some (t228, t229)) = some (r1, r2) := H
  have A68 := zq A680
  clear A680
  simp only [Option.some.injEq, Prod.mk.injEq] at H
  obtain ⟨rfl, rfl⟩ := H
  try go_wp2
  replace BK197 := zq (qB7 BK197.out)
  replace BK198 := zq (qB7 BK198.out)
  replace HB := zq (qBP HB.out)
  have p226 : 0 ≤ (0 : Int) := (by omega)
  have q226 : 0 < (l1.length : Int) := zd
  obtain ⟨ad226, e226, hx226_0⟩ := Kd.qCB HR1.out 0 p226 q226
  have hw226_0 := hx226_0
  (try rw [show ((0 : Int)).toNat = 0 from rfl] at hw226_0)
  (try rw [Addr.add_zero'] at hw226_0)
  cases e226
  have qi226 : (0 < l1.length) = True := eq_true (by omega)
  (try rw [show ((0 : Int)).toNat = 0 from rfl] at hx226_0)
  (try rw [Addr.add_zero'] at hx226_0)
  (try replace hx226_0 := zh hx226_0)
  replace p226 := eq_true p226
  replace q226 := eq_true q226
  have p227 : 0 ≤ (1 : Int) := (by omega)
  have q227 : 1 < (l1.length : Int) := zd
  obtain ⟨ad227, e227, hx227_0⟩ := Kd.qCB HR1.out 1 p227 q227
  have hw227_0 := hx227_0
  (try rw [show ((1 : Int)).toNat = 1 from rfl] at hw227_0)
  (try simp only [Nat.reduceMul, Nat.reduceEqDiff, Go.Addr.add, ↓reduceIte] at hw227_0)
  obtain rfl : ad226 = ad227 := (by injection e227)
  (try simp only [show (1 : Int).toNat = 1 from rfl, Nat.reduceMul, Nat.reduceEqDiff, Go.Addr.add, ↓reduceIte] at hx227_0)
  have qi227 : (1 < l1.length) = True := eq_true (by omega)
  (try replace hx227_0 := zh hx227_0)
  replace p227 := eq_true p227
  replace q227 := eq_true q227
  refine qF4 (n := 13) (S := fun w' => w'.cell? ⟨gb197, 0, none⟩ = some (.int .i64 a0_0) ∧ w'.cell? ⟨gb197, 1, none⟩ = some (.slice A0_1 l0_1.length c0_1) ∧ w'.cell? ⟨gb197, 2, none⟩ = some (.int .i64 a0_2) ∧ w'.cell? ⟨gb197, 3, none⟩ = some (.int .i64 a0_3) ∧ w'.cell? ⟨gb197, 4, none⟩ = some (.string a0_4) ∧ w'.cell? ad226 = some (.int .i64 (rd l1 0)) ∧ w'.cell? ⟨ad226.block, ad226.off + 1, none⟩ = some (.int .i64 (rd l1 1))) (ds := []) (bs 13 0) (by kernel_rfl) rfl rfl ⟨(qA1 BK197.out 0).trans rfl, (qA1 BK197.out 1).trans rfl, (qA1 BK197.out 2).trans rfl, (qA1 BK197.out 3).trans rfl, (qA1 BK197.out 4).trans rfl, (zh hw226_0), (zh hw227_0)⟩ (fun hHeld => ?_); refine qDF qA6.tab22 qA6.bits22 (fun HT_ HW_ => ?_)
  generalize wc.drew = w69 at BK197 BK198 HB hx226_0 hx227_0 hHeld ⊢
  refine qBK (i := 0) (N := some 97) (bs 13 1) ?_
  refine qBK (i := 2) (N := some 99) (bs 13 5) ?_
  refine qBK (i := 3) (N := some 100) (bs 13 13) ?_
  refine qBK (i := 5) (N := some 102) (bs 13 45) ?_
  refine qBK (i := 6) (N := some 103) (bs 13 109) ?_
  refine qEM (i := 1) (N := some 98) (bs 13 111) ?_
  refine qEM (i := 4) (N := some 101) (bs 13 127) ?_
  refine qEM (i := 7) (N := some 104) (bs 13 255) ?_
  refine one_ (i := 8) (N := some 105) (bs 13 511) rfl rfl (qDU HT_.out (by kernel_rfl)) (by decide) (fun K hK => ?_)
  refine qFZ Tryz.func94 (by kernel_rfl) rfl #[.int .i64 a0_0, .int .i64 (rd l1 0), .int .i64 (rd l1 1)] (by rfl) rfl rfl (by (try simp only [List.map_toArray, List.map_cons, List.map_nil]); first | done | rfl | (simp only [List.length_drop, List.length_take]; rfl)) ?_
  with_reducible refine (qAQ.calls kj62 a0_0 (rd l1 0) (rd l1 1) t228 t229 _ A68.out).mono ?_
  rintro e w' ⟨rfl, ⟨nd, rfl⟩⟩
  refine ⟨_, rfl, ?_⟩
  refine hK.out _ _ ⟨(qA1 BK197.out 0).trans rfl, (qA1 BK197.out 1).trans rfl, (qA1 BK197.out 2).trans rfl, (qA1 BK197.out 3).trans rfl, (qA1 BK197.out 4).trans rfl, (zh hw226_0), (zh hw227_0)⟩ (fun hHeld => ?_)
  clear hK K
  refine qFQ ?_
  refine qBK (i := 9) (N := some 106) (bs 13 1023) ?_
  refine qBK (i := 10) (N := some 107) (bs 13 2047) ?_
  refine qBK (i := 11) (N := some 6) (bs 13 4095) ?_
  refine qBK (i := 12) (N := some 7) (bs 13 8191) ?_
  refine done_ (qCQ HT_.out (by kernel_rfl)) ?_
  try go_wp2
  go_ret2
  exact ⟨zf, zb⟩
 replace c65 := Bool.eq_false_iff.mpr c65
 subst c65
 rw [zj] at H
 obtain ⟨-, c70b0, c70b1, H⟩ | ⟨c70, c70b0, c70b1, H⟩ := y4 H
 ·obtain ⟨c71, c71b0, H⟩ := y1 H
  have c71b1 : decide (0 < l1.length) = true := decide_eq_true (by omega)
  clear c71
  obtain ⟨c72, c72b0, H⟩ := y1 H
  have c72b1 : decide (1 < l1.length) = true := decide_eq_true (by omega)
  clear c72
  replace H := zi H
  obtain ⟨⟨t232, t233⟩, A730, H⟩ := H
  replace H : (some (t232, t233)) = some (r1, r2) := H
  have A73 := zq A730
  clear A730
  simp only [Option.some.injEq, Prod.mk.injEq] at H
  obtain ⟨rfl, rfl⟩ := H
  try go_wp2
  replace BK197 := zq (qB7 BK197.out)
  replace BK198 := zq (qB7 BK198.out)
  replace HB := zq (qBP HB.out)
  have p230 : 0 ≤ (0 : Int) := (by omega)
  have q230 : 0 < (l1.length : Int) := zd
  obtain ⟨ad230, e230, hx230_0⟩ := Kd.qCB HR1.out 0 p230 q230
  have hw230_0 := hx230_0
  (try rw [show ((0 : Int)).toNat = 0 from rfl] at hw230_0)
  (try rw [Addr.add_zero'] at hw230_0)
  cases e230
  have qi230 : (0 < l1.length) = True := eq_true (by omega)
  (try rw [show ((0 : Int)).toNat = 0 from rfl] at hx230_0)
  (try rw [Addr.add_zero'] at hx230_0)
  (try replace hx230_0 := zh hx230_0)
  replace p230 := eq_true p230
  replace q230 := eq_true q230
  have p231 : 0 ≤ (1 : Int) := (by omega)
  have q231 : 1 < (l1.length : Int) := zd
  obtain ⟨ad231, e231, hx231_0⟩ := Kd.qCB HR1.out 1 p231 q231
  have hw231_0 := hx231_0
  (try rw [show ((1 : Int)).toNat = 1 from rfl] at hw231_0)
  (try simp only [Nat.reduceMul, Nat.reduceEqDiff, Go.Addr.add, ↓reduceIte] at hw231_0)
  obtain rfl : ad230 = ad231 := (by injection e231)
  (try simp only [show (1 : Int).toNat = 1 from rfl, Nat.reduceMul, Nat.reduceEqDiff, Go.Addr.add, ↓reduceIte] at hx231_0)
  have qi231 : (1 < l1.length) = True := eq_true (by omega)
  (try replace hx231_0 := zh hx231_0)
  replace p231 := eq_true p231
  replace q231 := eq_true q231
  refine qF4 (n := 11) (S := fun w' => w'.cell? ad230 = some (.int .i64 (rd l1 0)) ∧ w'.cell? ⟨ad230.block, ad230.off + 1, none⟩ = some (.int .i64 (rd l1 1))) (ds := []) (bs 11 0) (by kernel_rfl) rfl rfl ⟨(zh hw230_0), (zh hw231_0)⟩ (fun hHeld => ?_); refine qDF qA6.tab24 qA6.bits24 (fun HT_ HW_ => ?_)
  generalize wc.drew = w74 at BK197 BK198 HB hx230_0 hx231_0 hHeld ⊢
  refine qBK (i := 0) (N := some 110) (bs 11 1) ?_
  refine qBK (i := 1) (N := some 111) (bs 11 3) ?_
  refine qBK (i := 3) (N := some 113) (bs 11 11) ?_
  refine qBK (i := 4) (N := some 114) (bs 11 27) ?_
  refine qEM (i := 2) (N := some 112) (bs 11 31) ?_
  refine qEM (i := 5) (N := some 115) (bs 11 63) ?_
  refine one_ (i := 6) (N := some 116) (bs 11 127) rfl rfl (qDU HT_.out (by kernel_rfl)) (by decide) (fun K hK => ?_)
  refine qFZ Tryz.func95 (by kernel_rfl) rfl #[.int .i64 (rd l1 0), .int .i64 (rd l1 1)] (by rfl) rfl rfl (by (try simp only [List.map_toArray, List.map_cons, List.map_nil]); first | done | rfl | (simp only [List.length_drop, List.length_take]; rfl)) ?_
  with_reducible refine (qAE.calls kj62 (rd l1 0) (rd l1 1) t232 t233 _ A73.out).mono ?_
  rintro e w75 ⟨rfl, hb⟩
  refine ⟨_, rfl, ?_⟩
  replace BK197 := zK BK197 hb
  replace BK198 := zK BK198 hb
  replace HB := zB hb
  (try clear hb)
  (try clear hb2)
  (try clear hk)
  (try clear hi)
  refine hK.out _ _ ⟨(zh hw230_0), (zh hw231_0)⟩ (fun hHeld => ?_)
  clear hK K
  refine qFQ ?_
  refine qBK (i := 7) (N := some 117) (bs 11 255) ?_
  refine qBK (i := 8) (N := some 118) (bs 11 511) ?_
  refine qBK (i := 9) (N := some 6) (bs 11 1023) ?_
  refine qBK (i := 10) (N := some 7) (bs 11 2047) ?_
  refine done_ (qCQ HT_.out (by kernel_rfl)) ?_
  try go_wp2
  go_ret2
  exact ⟨zf, zb⟩
 obtain ⟨-, c76b0, c76b1, H⟩ | ⟨c76, c76b0, c76b1, H⟩ := y4 H
 ·obtain ⟨c77, c77b0, H⟩ := y1 H
  have c77b1 : decide (1 < l1.length) = true := decide_eq_true (by omega)
  clear c77
  obtain ⟨c78, c78b0, H⟩ := y1 H
  have c78b1 : decide (2 < l1.length) = true := decide_eq_true (by omega)
  clear c78
  replace H := zi H
  obtain ⟨⟨t236, t237⟩, A790, H⟩ := H
  dsimp only at H
  have A79 := zq A790
  clear A790
  by_cases c80 : t237 = true
  rotate_left
  ·replace c80 := Bool.eq_false_iff.mpr c80
   subst c80
   rw [zj] at H
   simp only [Option.some.injEq, Prod.mk.injEq] at H
   obtain ⟨rfl, rfl⟩ := H
   try go_wp2
   replace BK197 := zq (qB7 BK197.out)
   replace BK198 := zq (qB7 BK198.out)
   replace HB := zq (qBP HB.out)
   have p234 : 0 ≤ (1 : Int) := (by omega)
   have q234 : 1 < (l1.length : Int) := zd
   obtain ⟨ad234, e234, hx234_0⟩ := Kd.qCB HR1.out 1 p234 q234
   have hw234_0 := hx234_0
   (try rw [show ((1 : Int)).toNat = 1 from rfl] at hw234_0)
   (try simp only [Nat.reduceMul, Nat.reduceEqDiff, Go.Addr.add, ↓reduceIte] at hw234_0)
   cases e234
   (try simp only [show (1 : Int).toNat = 1 from rfl, Nat.reduceMul, Nat.reduceEqDiff, Go.Addr.add, ↓reduceIte] at hx234_0)
   have qi234 : (1 < l1.length) = True := eq_true (by omega)
   (try replace hx234_0 := zh hx234_0)
   replace p234 := eq_true p234
   replace q234 := eq_true q234
   have p235 : 0 ≤ (2 : Int) := (by omega)
   have q235 : 2 < (l1.length : Int) := zd
   obtain ⟨ad235, e235, hx235_0⟩ := Kd.qCB HR1.out 2 p235 q235
   have hw235_0 := hx235_0
   (try rw [show ((2 : Int)).toNat = 2 from rfl] at hw235_0)
   (try simp only [Nat.reduceMul, Nat.reduceEqDiff, Go.Addr.add, ↓reduceIte] at hw235_0)
   obtain rfl : ad234 = ad235 := (by injection e235)
   (try simp only [show (2 : Int).toNat = 2 from rfl, Nat.reduceMul, Nat.reduceEqDiff, Go.Addr.add, ↓reduceIte] at hx235_0)
   have qi235 : (2 < l1.length) = True := eq_true (by omega)
   (try replace hx235_0 := zh hx235_0)
   replace p235 := eq_true p235
   replace q235 := eq_true q235
   refine qF4 (n := 12) (S := fun w' => w'.cell? ⟨ad234.block, ad234.off + 1, none⟩ = some (.int .i64 (rd l1 1)) ∧ w'.cell? ⟨ad234.block, ad234.off + 2, none⟩ = some (.int .i64 (rd l1 2))) (ds := []) (bs 12 0) (by kernel_rfl) rfl rfl ⟨(zh hw234_0), (zh hw235_0)⟩ (fun hHeld => ?_); refine qDF qA6.tab26 qA6.bits26 (fun HT_ HW_ => ?_)
   generalize wc.drew = w87 at BK197 BK198 HB hx234_0 hx235_0 hHeld ⊢
   refine qBK (i := 0) (N := some 122) (bs 12 1) ?_
   refine qBK (i := 1) (N := some 123) (bs 12 3) ?_
   refine qBK (i := 3) (N := some 125) (bs 12 11) ?_
   refine qBK (i := 4) (N := some 126) (bs 12 27) ?_
   refine qEM (i := 2) (N := some 124) (bs 12 31) ?_
   refine qEM (i := 5) (N := some 127) (bs 12 63) ?_
   refine one_ (i := 6) (N := some 128) (bs 12 127) rfl rfl (qDU HT_.out (by kernel_rfl)) (by decide) (fun K hK => ?_)
   refine qFZ Tryz.func93 (by kernel_rfl) rfl #[.int .i64 (rd l1 1), .int .i64 (rd l1 2)] (by rfl) rfl rfl (by (try simp only [List.map_toArray, List.map_cons, List.map_nil]); first | done | rfl | (simp only [List.length_drop, List.length_take]; rfl)) ?_
   with_reducible refine (qCK.calls (rd l1 1) (rd l1 2) t236 false _ A79.out).mono ?_
   rintro e w' ⟨rfl, ⟨nd, rfl⟩⟩
   refine ⟨_, rfl, ?_⟩
   refine hK.out _ _ ⟨(zh hw234_0), (zh hw235_0)⟩ (fun hHeld => ?_)
   clear hK K
   refine qFQ ?_
   refine qBK (i := 7) (N := some 121) (bs 12 255) ?_
   refine qBK (i := 8) (N := some 129) (bs 12 511) ?_
   refine qBK (i := 9) (N := some 130) (bs 12 1023) ?_
   refine qBK (i := 10) (N := some 14) (bs 12 2047) ?_
   refine qBK (i := 11) (N := some 15) (bs 12 4095) ?_
   refine done_ (qCQ HT_.out (by kernel_rfl)) ?_
   try go_wp2
   go_ret2
   exact ⟨zf, zb⟩
  subst c80
  rw [if_pos rfl] at H
  obtain ⟨c81, c81b0, H⟩ := y1 H
  have c81b1 : decide (0 < l1.length) = true := decide_eq_true (by omega)
  clear c81
  obtain ⟨y239, hy_⟩ : ∃ y_ : List Int, y_ = (([1] : List Int)) := ⟨_, rfl⟩
  replace H : ((qA9.f kj62 (rd l1 0) y239).bind fun t242 => (some (t236, t242))) = some (r1, r2) := zr
  have Ny239 := zq hy_
  clear hy_
  replace H := zi H
  obtain ⟨t242, A820, H⟩ := H
  have A82 := zq A820
  clear A820
  simp only [Option.some.injEq, Prod.mk.injEq] at H
  obtain ⟨rfl, rfl⟩ := H
  try go_wp2
  replace BK197 := zq (qB7 BK197.out)
  replace BK198 := zq (qB7 BK198.out)
  replace HB := zq (qBP HB.out)
  have p234 : 0 ≤ (1 : Int) := (by omega)
  have q234 : 1 < (l1.length : Int) := zd
  obtain ⟨ad234, e234, hx234_0⟩ := Kd.qCB HR1.out 1 p234 q234
  have hw234_0 := hx234_0
  (try rw [show ((1 : Int)).toNat = 1 from rfl] at hw234_0)
  (try simp only [Nat.reduceMul, Nat.reduceEqDiff, Go.Addr.add, ↓reduceIte] at hw234_0)
  cases e234
  (try simp only [show (1 : Int).toNat = 1 from rfl, Nat.reduceMul, Nat.reduceEqDiff, Go.Addr.add, ↓reduceIte] at hx234_0)
  have qi234 : (1 < l1.length) = True := eq_true (by omega)
  (try replace hx234_0 := zh hx234_0)
  replace p234 := eq_true p234
  replace q234 := eq_true q234
  have p235 : 0 ≤ (2 : Int) := (by omega)
  have q235 : 2 < (l1.length : Int) := zd
  obtain ⟨ad235, e235, hx235_0⟩ := Kd.qCB HR1.out 2 p235 q235
  have hw235_0 := hx235_0
  (try rw [show ((2 : Int)).toNat = 2 from rfl] at hw235_0)
  (try simp only [Nat.reduceMul, Nat.reduceEqDiff, Go.Addr.add, ↓reduceIte] at hw235_0)
  obtain rfl : ad234 = ad235 := (by injection e235)
  (try simp only [show (2 : Int).toNat = 2 from rfl, Nat.reduceMul, Nat.reduceEqDiff, Go.Addr.add, ↓reduceIte] at hx235_0)
  have qi235 : (2 < l1.length) = True := eq_true (by omega)
  (try replace hx235_0 := zh hx235_0)
  replace p235 := eq_true p235
  replace q235 := eq_true q235
  refine qF4 (n := 12) (S := fun w' => w'.cell? ⟨ad234.block, ad234.off + 1, none⟩ = some (.int .i64 (rd l1 1)) ∧ w'.cell? ⟨ad234.block, ad234.off + 2, none⟩ = some (.int .i64 (rd l1 2))) (ds := []) (bs 12 0) (by kernel_rfl) rfl rfl ⟨(zh hw234_0), (zh hw235_0)⟩ (fun hHeld => ?_); refine qDF qA6.tab26 qA6.bits26 (fun HT_ HW_ => ?_)
  generalize wc.drew = w83 at BK197 BK198 HB hx234_0 hx235_0 hHeld ⊢
  refine qBK (i := 0) (N := some 122) (bs 12 1) ?_
  refine qBK (i := 1) (N := some 123) (bs 12 3) ?_
  refine qBK (i := 3) (N := some 125) (bs 12 11) ?_
  refine qBK (i := 4) (N := some 126) (bs 12 27) ?_
  refine qEM (i := 2) (N := some 124) (bs 12 31) ?_
  refine qEM (i := 5) (N := some 127) (bs 12 63) ?_
  refine one_ (i := 6) (N := some 128) (bs 12 127) rfl rfl (qDU HT_.out (by kernel_rfl)) (by decide) (fun K hK => ?_)
  refine qFZ Tryz.func93 (by kernel_rfl) rfl #[.int .i64 (rd l1 1), .int .i64 (rd l1 2)] (by rfl) rfl rfl (by (try simp only [List.map_toArray, List.map_cons, List.map_nil]); first | done | rfl | (simp only [List.length_drop, List.length_take]; rfl)) ?_
  with_reducible refine (qCK.calls (rd l1 1) (rd l1 2) t236 true _ A79.out).mono ?_
  rintro e w' ⟨rfl, ⟨nd, rfl⟩⟩
  refine ⟨_, rfl, ?_⟩
  refine hK.out _ _ ⟨(zh hw234_0), (zh hw235_0)⟩ (fun hHeld => ?_)
  clear hK K
  refine qFQ ?_
  refine qBK (i := 7) (N := some 121) (bs 12 255) ?_
  refine qBK (i := 8) (N := some 129) (bs 12 511) ?_
  refine qBK (i := 9) (N := some 130) (bs 12 1023) ?_
  refine qBK (i := 10) (N := some 14) (bs 12 2047) ?_
  refine qBK (i := 11) (N := some 15) (bs 12 4095) ?_
  refine done_ (qCQ HT_.out (by kernel_rfl)) ?_
  have p238 : 0 ≤ (0 : Int) := (by omega)
  have q238 : 0 < (l1.length : Int) := zd
  obtain ⟨ad238, e238, hx238_0⟩ := Kd.qCB HR1.out 0 p238 q238
  obtain rfl : ad234 = ad238 := (by injection e238)
  have qi238 : (0 < l1.length) = True := eq_true (by omega)
  (try rw [show ((0 : Int)).toNat = 0 from rfl] at hx238_0)
  (try rw [Addr.add_zero'] at hx238_0)
  (try replace hx238_0 := zh hx238_0)
  replace p238 := eq_true p238
  replace q238 := eq_true q238
  try go_wp2_with (first | ((with_reducible refine qAS (N := 137) rfl ?_); (try (refine qC1 (by rfl) ?_; dsimp only)); refine Kd.qFV (Kd.int .i64) _ 3 ?hg (N := 137) ?hd (xs := ([1] : List Int)) (inner := [.int .i64 1]) (ok := fun _ => True) (okp := fun _ => True) ?hr ?hp (fun _ hk => hk) trivial (Below.refl _ _) (Nat.le_refl _) (by simp) ?_; (case hd => rfl); (case hg => rfl); (case hr => first | (go_simp; done) | (go_simp; rfl)); (case hp => exact (Reps.one (show Kd.M (Kd.int .i64) _ _ _ 1 [.int .i64 1] from rfl) (Reps.none _ _))); intro v240 w84 ho85 hb hg_ hnew_; clear hg_ hnew_; (first | rw [← Ny239.out] at ho85 | (simp only [Int.reduceToNat] at ho85; rw [← Ny239.out] at ho85)); have HO241 := zq (Kd.qC3 ho85 (qAH zb)); replace BK197 := zK BK197 hb; replace BK198 := zK BK198 hb; replace HB := zB hb; clear hb ho85; obtain ⟨Ao86, co86, eo86⟩ := Kd.qBX HO241.out; subst eo86) | (go_at_call 92; (with_reducible refine (qA9.calls kj62 (rd l1 0) _ _ y239 t242 _ ?side1 ?side2 A82.out).mono ?_); (case side1 => repeat (first | exact (Kd.qAR HO241.out).2.2 | refine sC ?_)); (case side2 => exact (Kd.qAR HO241.out).2.1); rintro e w' ⟨rfl, ⟨nd, rfl⟩⟩))
  go_ret2
  exact ⟨zf, zb⟩
 obtain ⟨-, c88b0, c88b1, H⟩ | ⟨c88, c88b0, c88b1, H⟩ := y4 H
 ·obtain ⟨c89, c89b0, H⟩ := y1 H
  have c89b1 : decide (0 < l1.length) = true := decide_eq_true (by omega)
  clear c89
  obtain ⟨y244, hy_⟩ : ∃ y_ : List Int, y_ = (([a2_1] : List Int)) := ⟨_, rfl⟩
  replace H : ((qA9.f kj62 (rd l1 0) y244).bind fun t247 => (some (a2_2, t247))) = some (r1, r2) := zr
  have Ny244 := zq hy_
  clear hy_
  replace H := zi H
  obtain ⟨t247, A900, H⟩ := H
  have A90 := zq A900
  clear A900
  simp only [Option.some.injEq, Prod.mk.injEq] at H
  obtain ⟨rfl, rfl⟩ := H
  try go_wp2
  replace BK197 := zq (qB7 BK197.out)
  replace BK198 := zq (qB7 BK198.out)
  replace HB := zq (qBP HB.out)
  have p243 : 0 ≤ (0 : Int) := (by omega)
  have q243 : 0 < (l1.length : Int) := zd
  obtain ⟨ad243, e243, hx243_0⟩ := Kd.qCB HR1.out 0 p243 q243
  have hw243_0 := hx243_0
  (try rw [show ((0 : Int)).toNat = 0 from rfl] at hw243_0)
  (try rw [Addr.add_zero'] at hw243_0)
  cases e243
  have qi243 : (0 < l1.length) = True := eq_true (by omega)
  (try rw [show ((0 : Int)).toNat = 0 from rfl] at hx243_0)
  (try rw [Addr.add_zero'] at hx243_0)
  (try replace hx243_0 := zh hx243_0)
  replace p243 := eq_true p243
  replace q243 := eq_true q243
  refine qF4 (n := 11) (S := fun w' => w'.cell? ⟨gb198, 0, none⟩ = some (.string a2_0) ∧ w'.cell? ⟨gb198, 1, none⟩ = some (.int .i64 a2_1) ∧ w'.cell? ⟨gb198, 2, none⟩ = some (.int .i64 a2_2) ∧ w'.cell? ⟨gb198, 3, none⟩ = some (.bool a2_3) ∧ w'.cell? ⟨gb198, 4, none⟩ = some (.slice A2_4 l2_4.length c2_4) ∧ w'.cell? ad243 = some (.int .i64 (rd l1 0))) (ds := []) (bs 11 0) (by kernel_rfl) rfl rfl ⟨(qA1 BK198.out 0).trans rfl, (qA1 BK198.out 1).trans rfl, (qA1 BK198.out 2).trans rfl, (qA1 BK198.out 3).trans rfl, (qA1 BK198.out 4).trans rfl, (zh hw243_0)⟩ (fun hHeld => ?_); refine qDF qA6.tab29 qA6.bits29 (fun HT_ HW_ => ?_)
  generalize wc.drew = w91 at BK197 BK198 HB hx243_0 hHeld ⊢
  refine qBK (i := 0) (N := some 142) (bs 11 1) ?_
  refine qBK (i := 2) (N := some 144) (bs 11 5) ?_
  refine qBK (i := 3) (N := some 145) (bs 11 13) ?_
  refine qBK (i := 5) (N := some 147) (bs 11 45) ?_
  refine qEM (i := 1) (N := some 143) (bs 11 47) ?_
  refine qEM (i := 4) (N := some 146) (bs 11 63) ?_
  refine qEM (i := 6) (N := some 148) (bs 11 127) ?_
  refine one_ (i := 7) (N := some 149) (bs 11 255) rfl rfl (qDU HT_.out (by kernel_rfl)) (by decide) (fun K hK => ?_)
  refine Kd.R_lit_step (Kd.int .i64) _ 3 ?hg (N := 149) ?hd (xs := ([a2_1] : List Int)) (inner := [.int .i64 a2_1]) (ok := fun _ => True) (okp := fun _ => True) ?hr ?hp (fun _ hk => hk) trivial (Below.refl _ _) (Nat.le_refl _) (by simp) ?_; (case hd => rfl); (case hg => rfl); (case hr => first | (go_simp; done) | (go_simp; rfl)); (case hp => exact (Reps.one (show Kd.M (Kd.int .i64) _ _ _ a2_1 [.int .i64 a2_1] from rfl) (Reps.none _ _)))
  intro v245 w92 ho93 hb hg_ hnew_
  clear hg_ hnew_
  (first | rw [← Ny244.out] at ho93 | (simp only [Int.reduceToNat] at ho93; rw [← Ny244.out] at ho93))
  have HO246 := zq (Kd.qC3 ho93 (qAH zb))
  replace BK197 := zK BK197 hb
  replace BK198 := zK BK198 hb
  replace HB := zB hb
  clear hb ho93
  obtain ⟨Ao94, co94, eo94⟩ := Kd.qBX HO246.out
  (first | subst eo94 | (injection eo94 with f1_ f2_ f3_; have f4_ := f1_.symm; have f5_ := f3_.symm; clear f1_ f2_ f3_; subst f4_; subst f5_))
  refine hK.out _ _ ⟨(qA1 BK198.out 0).trans rfl, (qA1 BK198.out 1).trans rfl, (qA1 BK198.out 2).trans rfl, (qA1 BK198.out 3).trans rfl, (qA1 BK198.out 4).trans rfl, (zh hw243_0)⟩ (fun hHeld => ?_)
  clear hK K
  refine qFQ ?_
  refine one_ (i := 8) (N := some 150) (bs 11 511) rfl rfl (qDU HT_.out (by kernel_rfl)) (by decide) (fun K hK => ?_)
  refine qFZ Tryz.func92 (by kernel_rfl) rfl #[.int .i64 (rd l1 0), .slice Ao94 y244.length co94] (by rfl) rfl rfl (by (try simp only [List.map_toArray, List.map_cons, List.map_nil]); first | done | rfl | (simp only [List.length_drop, List.length_take]; rfl)) ?_
  with_reducible refine (qA9.calls kj62 (rd l1 0) _ _ y244 t247 _ ?side1 ?side2 A90.out).mono ?_
  (case side1 => repeat (first | exact (Kd.qAR HO246.out).2.2 | refine sC ?_))
  (case side2 => exact (Kd.qAR HO246.out).2.1)
  rintro e w' ⟨rfl, ⟨nd, rfl⟩⟩
  refine ⟨_, rfl, ?_⟩
  refine hK.out _ _ ⟨(qA1 BK198.out 0).trans rfl, (qA1 BK198.out 1).trans rfl, (qA1 BK198.out 2).trans rfl, (qA1 BK198.out 3).trans rfl, (qA1 BK198.out 4).trans rfl, (zh hw243_0)⟩ (fun hHeld => ?_)
  clear hK K
  refine qFQ ?_
  refine qBK (i := 9) (N := some 6) (bs 11 1023) ?_
  refine qBK (i := 10) (N := some 7) (bs 11 2047) ?_
  refine done_ (qCQ HT_.out (by kernel_rfl)) ?_
  try go_wp2
  go_ret2
  exact ⟨zf, zb⟩
 obtain ⟨-, c95b0, c95b1, H⟩ | ⟨c95, c95b0, c95b1, H⟩ := y4 H
 ·obtain ⟨c96, c96b0, H⟩ := y1 H
  have c96b1 : decide (0 < l1.length) = true := decide_eq_true (by omega)
  clear c96
  obtain ⟨y249, hy_⟩ : ∃ y_ : List Int, y_ = (([2] : List Int)) := ⟨_, rfl⟩
  replace H : ((qA9.f kj62 (rd l1 0) y249).bind fun t252 => (some (2, t252))) = some (r1, r2) := zr
  have Ny249 := zq hy_
  clear hy_
  replace H := zi H
  obtain ⟨t252, A970, H⟩ := H
  have A97 := zq A970
  clear A970
  simp only [Option.some.injEq, Prod.mk.injEq] at H
  obtain ⟨rfl, rfl⟩ := H
  have p248 : 0 ≤ (0 : Int) := (by omega)
  have q248 : 0 < (l1.length : Int) := zd
  obtain ⟨ad248, e248, hx248_0⟩ := Kd.qCB HR1.out 0 p248 q248
  cases e248
  have qi248 : (0 < l1.length) = True := eq_true (by omega)
  (try rw [show ((0 : Int)).toNat = 0 from rfl] at hx248_0)
  (try rw [Addr.add_zero'] at hx248_0)
  (try replace hx248_0 := zh hx248_0)
  replace p248 := eq_true p248
  replace q248 := eq_true q248
  go_wp2_with (first | ((with_reducible refine qAS (N := 156) rfl ?_); (try (refine qC1 (by rfl) ?_; dsimp only)); refine Kd.qFV (Kd.int .i64) _ 3 ?hg (N := 156) ?hd (xs := ([2] : List Int)) (inner := [.int .i64 2]) (ok := fun _ => True) (okp := fun _ => True) ?hr ?hp (fun _ hk => hk) trivial (Below.refl _ _) (Nat.le_refl _) (by simp) ?_; (case hd => rfl); (case hg => rfl); (case hr => first | (go_simp; done) | (go_simp; rfl)); (case hp => exact (Reps.one (show Kd.M (Kd.int .i64) _ _ _ 2 [.int .i64 2] from rfl) (Reps.none _ _))); intro v250 w98 ho99 hb hg_ hnew_; clear hg_ hnew_; (first | rw [← Ny249.out] at ho99 | (simp only [Int.reduceToNat] at ho99; rw [← Ny249.out] at ho99)); have HO251 := zq (Kd.qC3 ho99 (qAH zb)); replace BK197 := zK BK197 hb; replace BK198 := zK BK198 hb; replace HB := zB hb; clear hb ho99; obtain ⟨Ao100, co100, eo100⟩ := Kd.qBX HO251.out; subst eo100) | (refine qBY (some 157) Tryz.func92 #[.int .i64 (rd l1 0), .slice Ao100 y249.length co100] ?_; (with_reducible refine (qA9.calls kj62 (rd l1 0) _ _ y249 t252 _ ?side1 ?side2 A97.out).mono ?_); (case side1 => repeat (first | exact (Kd.qAR HO251.out).2.2 | refine sC ?_)); (case side2 => exact (Kd.qAR HO251.out).2.1); rintro e w' ⟨rfl, ⟨nd, rfl⟩⟩; refine ⟨_, rfl, ?_⟩))
  go_ret2
  exact ⟨zf, zb⟩
 obtain ⟨c101, c101b0, H⟩ := y1 H
 have c101b1 : decide (0 < l1.length) = true := decide_eq_true (by omega)
 clear c101
 obtain ⟨y254, hy_⟩ : ∃ y_ : List Int, y_ = (([4] : List Int)) := ⟨_, rfl⟩
 replace H : ((qA9.f kj62 (rd l1 0) y254).bind fun t257 => (if t257 = true then (if 1 < (l1.length : Int) then ((qA9.f kj62 (rd l1 1) (([4] : List Int))).bind fun t262 => (some (5, t262))) else (none)) else (some (5, false)))) = some (r1, r2) := zr
 have Ny254 := zq hy_
 clear hy_
 replace H := zi H
 obtain ⟨t257, A1020, H⟩ := H
 have A102 := zq A1020
 clear A1020
 by_cases c103 : t257 = true
 rotate_left
 ·replace c103 := Bool.eq_false_iff.mpr c103
  subst c103
  rw [zj] at H
  simp only [Option.some.injEq, Prod.mk.injEq] at H
  obtain ⟨rfl, rfl⟩ := H
  have p253 : 0 ≤ (0 : Int) := (by omega)
  have q253 : 0 < (l1.length : Int) := zd
  obtain ⟨ad253, e253, hx253_0⟩ := Kd.qCB HR1.out 0 p253 q253
  cases e253
  have qi253 : (0 < l1.length) = True := eq_true (by omega)
  (try rw [show ((0 : Int)).toNat = 0 from rfl] at hx253_0)
  (try rw [Addr.add_zero'] at hx253_0)
  (try replace hx253_0 := zh hx253_0)
  replace p253 := eq_true p253
  replace q253 := eq_true q253
  go_wp2_with (first | ((with_reducible refine qAS (N := 161) rfl ?_); (try (refine qC1 (by rfl) ?_; dsimp only)); refine Kd.qFV (Kd.int .i64) _ 3 ?hg (N := 161) ?hd (xs := ([4] : List Int)) (inner := [.int .i64 4]) (ok := fun _ => True) (okp := fun _ => True) ?hr ?hp (fun _ hk => hk) trivial (Below.refl _ _) (Nat.le_refl _) (by simp) ?_; (case hd => rfl); (case hg => rfl); (case hr => first | (go_simp; done) | (go_simp; rfl)); (case hp => exact (Reps.one (show Kd.M (Kd.int .i64) _ _ _ 4 [.int .i64 4] from rfl) (Reps.none _ _))); intro v255 w112 ho113 hb hg_ hnew_; clear hg_ hnew_; (first | rw [← Ny254.out] at ho113 | (simp only [Int.reduceToNat] at ho113; rw [← Ny254.out] at ho113)); have HO256 := zq (Kd.qC3 ho113 (qAH zb)); replace BK197 := zK BK197 hb; replace BK198 := zK BK198 hb; replace HB := zB hb; clear hb ho113; obtain ⟨Ao114, co114, eo114⟩ := Kd.qBX HO256.out; subst eo114) | (refine qBY (some 162) Tryz.func92 #[.int .i64 (rd l1 0), .slice Ao114 y254.length co114] ?_; (with_reducible refine (qA9.calls kj62 (rd l1 0) _ _ y254 false _ ?side1 ?side2 A102.out).mono ?_); (case side1 => repeat (first | exact (Kd.qAR HO256.out).2.2 | refine sC ?_)); (case side2 => exact (Kd.qAR HO256.out).2.1); rintro e w' ⟨rfl, ⟨nd, rfl⟩⟩; refine ⟨_, rfl, ?_⟩))
  go_ret2
  exact ⟨zf, zb⟩
 subst c103
 rw [if_pos rfl] at H
 obtain ⟨c104, c104b0, H⟩ := y1 H
 have c104b1 : decide (1 < l1.length) = true := decide_eq_true (by omega)
 clear c104
 obtain ⟨y259, hy_⟩ : ∃ y_ : List Int, y_ = (([4] : List Int)) := ⟨_, rfl⟩
 replace H : ((qA9.f kj62 (rd l1 1) y259).bind fun t262 => (some (5, t262))) = some (r1, r2) := zr
 have Ny259 := zq hy_
 clear hy_
 replace H := zi H
 obtain ⟨t262, A1050, H⟩ := H
 have A105 := zq A1050
 clear A1050
 simp only [Option.some.injEq, Prod.mk.injEq] at H
 obtain ⟨rfl, rfl⟩ := H
 have p253 : 0 ≤ (0 : Int) := (by omega)
 have q253 : 0 < (l1.length : Int) := zd
 obtain ⟨ad253, e253, hx253_0⟩ := Kd.qCB HR1.out 0 p253 q253
 cases e253
 have qi253 : (0 < l1.length) = True := eq_true (by omega)
 (try rw [show ((0 : Int)).toNat = 0 from rfl] at hx253_0)
 (try rw [Addr.add_zero'] at hx253_0)
 (try replace hx253_0 := zh hx253_0)
 replace p253 := eq_true p253
 replace q253 := eq_true q253
 go_wp2_with (first | ((with_reducible refine qAS (N := 161) rfl ?_); (try (refine qC1 (by rfl) ?_; dsimp only)); refine Kd.qFV (Kd.int .i64) _ 3 ?hg (N := 161) ?hd (xs := ([4] : List Int)) (inner := [.int .i64 4]) (ok := fun _ => True) (okp := fun _ => True) ?hr ?hp (fun _ hk => hk) trivial (Below.refl _ _) (Nat.le_refl _) (by simp) ?_; (case hd => rfl); (case hg => rfl); (case hr => first | (go_simp; done) | (go_simp; rfl)); (case hp => exact (Reps.one (show Kd.M (Kd.int .i64) _ _ _ 4 [.int .i64 4] from rfl) (Reps.none _ _))); intro v255 w106 ho107 hb hg_ hnew_; clear hg_ hnew_; (first | rw [← Ny254.out] at ho107 | (simp only [Int.reduceToNat] at ho107; rw [← Ny254.out] at ho107)); have HO256 := zq (Kd.qC3 ho107 (qAH zb)); replace BK197 := zK BK197 hb; replace BK198 := zK BK198 hb; replace HB := zB hb; clear hb ho107; obtain ⟨Ao108, co108, eo108⟩ := Kd.qBX HO256.out; subst eo108) | (refine qBY (some 162) Tryz.func92 #[.int .i64 (rd l1 0), .slice Ao108 y254.length co108] ?_; (with_reducible refine (qA9.calls kj62 (rd l1 0) _ _ y254 true _ ?side1 ?side2 A102.out).mono ?_); (case side1 => repeat (first | exact (Kd.qAR HO256.out).2.2 | refine sC ?_)); (case side2 => exact (Kd.qAR HO256.out).2.1); rintro e w' ⟨rfl, ⟨nd, rfl⟩⟩; refine ⟨_, rfl, ?_⟩; have p258 : 0 ≤ (1 : Int) := (by omega); have q258 : 1 < (l1.length : Int) := zd; obtain ⟨ad258, e258, hx258_0⟩ := Kd.qCB HR1.out 1 p258 q258; obtain rfl : ad253 = ad258 := (by injection e258); (try simp only [show (1 : Int).toNat = 1 from rfl, Nat.reduceMul, Nat.reduceEqDiff, Go.Addr.add, ↓reduceIte] at hx258_0); have qi258 : (1 < l1.length) = True := eq_true (by omega); (try rw [show ((1 : Int)).toNat = 1 from rfl] at hx258_0); replace hx258_0 := zh hx258_0; replace p258 := eq_true p258; replace q258 := eq_true q258) | ((with_reducible refine qAS (N := 167) rfl ?_); (try (refine qC1 (by rfl) ?_; dsimp only)); refine Kd.qFV (Kd.int .i64) _ 3 ?hg (N := 167) ?hd (xs := ([4] : List Int)) (inner := [.int .i64 4]) (ok := fun _ => True) (okp := fun _ => True) ?hr ?hp (fun _ hk => hk) trivial (Below.refl _ _) (Nat.le_refl _) (by simp) ?_; (case hd => rfl); (case hg => rfl); (case hr => first | (go_simp; done) | (go_simp; rfl)); (case hp => exact (Reps.one (show Kd.M (Kd.int .i64) _ _ _ 4 [.int .i64 4] from rfl) (Reps.none _ _))); intro v260 w109 ho110 hb hg_ hnew_; clear hg_ hnew_; (first | rw [← Ny259.out] at ho110 | (simp only [Int.reduceToNat] at ho110; rw [← Ny259.out] at ho110)); have HO261 := zq (Kd.qC3 (Kd.R_new' ho110 (Kd.R_lt (by (with_reducible repeat (first | apply Kd.R_alloc | apply Kd.R_drewN | apply Kd.R_drew)); exact HO256.out))) (qAH zb)); replace HO256 := zq (Kd.R_elder' (by (with_reducible repeat (first | apply Kd.R_alloc | apply Kd.R_drewN | apply Kd.R_drew)); exact HO256.out) (Kd.qEV ho110) hb); replace BK197 := zK BK197 hb; replace BK198 := zK BK198 hb; replace HB := zB hb; clear hb ho110; obtain ⟨Ao111, co111, eo111⟩ := Kd.qBX HO261.out; subst eo111) | (go_at_call 92; (with_reducible refine (qA9.calls kj62 (rd l1 1) _ _ y259 t262 _ ?side1 ?side2 A105.out).mono ?_); (case side1 => repeat (first | exact (Kd.qAR HO261.out).2.2 | refine sC ?_)); (case side2 => exact (Kd.qAR HO261.out).2.1); rintro e w' ⟨rfl, ⟨nd, rfl⟩⟩))
 go_ret2
 exact ⟨zf, zb⟩
end
end Go.Proofs.YtfnejdbjekkadaaGreat.PRatePuts
end
