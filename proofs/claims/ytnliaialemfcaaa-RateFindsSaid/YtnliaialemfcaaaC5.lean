/- A part of the proof of RateFinds: texts that were printed, words, walks. No condition. -/
import Derived.Test.YtnliaialemfcaaaC4
import Derived.BigQuiet
import Derived.Orders
import Derived.RangeFuncBox
import Derived.Maps.AppendAt
import Derived.ChangeArms
import Derived.Deep.Slices
import Derived.SizedLaws
set_option linter.unusedVariables false
set_option linter.unusedSimpArgs false
section
namespace Go.Proofs.Ytnliaialemfcaaa.PRateFinds
noncomputable section
open Go.RowKit Go.Proofs.YtnliaialemfcaaaW.PrintWords Go.Proofs.YtnliaialemfcaaaW.PrintLast Go.Proofs.YtnliaialemfcaaaW.PrintMore
attribute [local go_sem high] eqA25
theorem idxAct.idx (A : Option Addr) (c : Nat) (l : List S48) (gr : Addr) (J T : Nat → World → Prop) (hJ : ∀ k W, J k W → Kd.C k48 W A l.length l) (hl : l.length ≤ c)
  (hcall : ∀ k W (A3 : Option Addr) (c3 : Nat) (A4 : Option Addr) (c4 : Nat) (A5 : Option Addr) (c5 : Nat), k < l.length → J k W → Calls Try.prog 38 #[.agg #[.string (l.getD k z48).f0, .int .i64 (l.getD k z48).f1, .int .i64 (l.getD k z48).f2, .slice A3 (l.getD k z48).f3.length c3, .slice A4 (l.getD k z48).f4.length c4, .slice A5 (l.getD k z48).f5.length c5], .pointer (some gr)] W fun e W' => (e = .returned (.bool true) ∧ T k W') ∨ (e = .returned (.bool false) ∧ J (k + 1) W')) (w : World) (h0 : J 0 w) :
  Calls Try.prog 37 #[.slice A l.length c, .func (.func 38) #[] #[.pointer (some gr)]] w fun e W' => (∃ k : Nat, k < l.length ∧ e = .returned (.int .i64 (k : Int)) ∧ T k W') ∨ (e = .returned (.int .i64 (-1)) ∧ J l.length W') := by
 have hm := Kd.qEI (hJ 0 w h0)
 have H0 := qA0.mk h0
 clear h0
 go_enter Try.func37, Try.ntmps37
 go_wp2
 go_loopw [5, 8] (fun _ i wr => ∃ k : Nat, k ≤ l.length ∧ i = .int .i64 k ∧ qA0 (J k wr)) (fun _ i _ => l.length - (intOf i).toNat)
 case atStart => exact ⟨0, Nat.zero_le _, rfl, H0⟩
 case round =>
  obtain ⟨k, hk, rfl, HJ⟩ := hrel
  by_cases hlt : k < l.length
  ·have hC := hJ k wr HJ.out
   obtain ⟨ad, A3, c3, A4, c4, A5, c5, rfl, hx0, hx1, hx2, hx3, hx4, hx5, hl3, hi3, hl4, hi4, hl5, hi5⟩ := qEM hC (k : Int) (by omega) (by omega)
   have e_ : qA3 l (k : Int) = l.getD k z48 := by simp [qA3]
   rw [e_] at hx0 hx1 hx2 hx3 hx4 hx5 hl3 hi3 hl4 hi4 hl5 hi5
   simp only [Int.toNat_natCast] at hx0 hx1 hx2 hx3 hx4 hx5
   clear hC e_ hl3 hi3 hl4 hi4 hl5 hi5
   have HC := qA0.mk (hcall k wr A3 c3 A4 c4 A5 c5 hlt HJ.out)
   clear hcall
   generalize l.getD k z48 = y at *
   go_wp2_with fail
   refine HC.out.mono ?_
   rintro e w' (⟨rfl, ht⟩ | ⟨rfl, hj⟩)
   ·have HT := qA0.mk ht
    clear ht
    go_wp2_with fail
    go_ret
    exact .inl ⟨k, hlt, rfl, HT.out⟩
   ·have HJ2 := qA0.mk hj
    clear hj
    go_wp2_with fail
    go_roundw
    case rel => exact ⟨k + 1, by omega, by go_num, HJ2⟩
    case measure => simp [intOf]; omega
  ·obtain rfl : k = l.length := by omega
   go_wp2_with fail
   go_ret
   exact .inr ⟨rfl, HJ.out⟩
theorem idxAct.pred (x : S48) (A3 : Option Addr) (c3 : Nat) (A4 : Option Addr) (c4 : Nat) (A5 : Option Addr) (c5 : Nat) (gr : Nat) (q : ByteArray) (W : World) (hq : W.cell? ⟨gr, 0, none⟩ = some (.string q)) :
  Calls Try.prog 38 #[.agg #[.string x.f0, .int .i64 x.f1, .int .i64 x.f2, .slice A3 x.f3.length c3, .slice A4 x.f4.length c4, .slice A5 x.f5.length c5], .pointer (some ⟨gr, 0, none⟩)] W fun e W' => e = .returned (.bool (x.f0.toList == q.toList)) ∧ Below W.heap.size W W' := by
 have hB : Below W.heap.size W (W.alloc (.cells #[.string x.f0, .int .i64 x.f1, .int .i64 x.f2, .slice A3 x.f3.length c3, .slice A4 x.f4.length c4, .slice A5 x.f5.length c5] 48)) := qAG (Below.refl _ _) _
 have hq' := qAH hB hq
 have HB := qA0.mk hB
 clear hB
 go_enter Try.func38, Try.ntmps38
 go_wp2_with fail
 go_ret
 exact ⟨rfl, HB.out⟩
theorem idxAct.first (A : Option Addr) (c : Nat) (l : List S48) (gr : Nat) (q : ByteArray) (w : World) (hC : Kd.C k48 w A l.length l) (hl : l.length ≤ c) (hq : w.cell? ⟨gr, 0, none⟩ = some (.string q)) :
  Calls Try.prog 37 #[.slice A l.length c, .func (.func 38) #[] #[.pointer (some ⟨gr, 0, none⟩)]] w fun e W' => Below w.heap.size w W' ∧ ((∃ k : Nat, k < l.length ∧ e = .returned (.int .i64 (k : Int)) ∧ l.find? (fun x => x.f0.toList == q.toList) = some (l.getD k z48)) ∨ (e = .returned (.int .i64 (-1)) ∧ l.find? (fun x => x.f0.toList == q.toList) = none)) := by
 refine (idxAct.idx A c l ⟨gr, 0, none⟩ (fun k W => Below w.heap.size w W ∧ ∀ j, j < k → ((l.getD j z48).f0.toList == q.toList) = false) (fun k W => Below w.heap.size w W ∧ ((l.getD k z48).f0.toList == q.toList) = true ∧ ∀ j, j < k → ((l.getD j z48).f0.toList == q.toList) = false) (fun k W hW => Kd.qAQ hC hW.1) hl ?_ w ⟨Below.refl _ _, fun j hj => absurd hj (by omega)⟩).mono ?_
 ·rintro k W A3 c3 A4 c4 A5 c5 hk ⟨hB, hJ⟩
  refine (idxAct.pred (l.getD k z48) A3 c3 A4 c4 A5 c5 gr q W (qAH hB hq)).mono ?_
  rintro e W' ⟨rfl, hb⟩
  cases hp : ((l.getD k z48).f0.toList == q.toList)
  ·refine .inr ⟨rfl, qA1 hB hb, fun j hj => ?_⟩
   rcases Nat.lt_or_ge j k with h | h
   ·exact hJ j h
   ·obtain rfl : j = k := by omega
    exact hp
  ·exact .inl ⟨rfl, qA1 hB hb, rfl, hJ⟩
 ·rintro e W' (⟨k, hk, rfl, hB, hp, hJ⟩ | ⟨rfl, hB, hJ⟩)
  ·refine ⟨hB, .inl ⟨k, hk, rfl, List.find?_eq_some_iff_append.2 ⟨hp, l.take k, l.drop (k + 1), ?_, fun a ha => ?_⟩⟩⟩
   ·rw [List.getD_eq_getElem?_getD, List.getElem?_eq_getElem hk, Option.getD_some, ← List.drop_eq_getElem_cons hk, List.take_append_drop]
   ·obtain ⟨j, hj, rfl⟩ := List.getElem_of_mem ha
    have hj' : j < k := by rw [List.length_take] at hj; omega
    have := hJ j hj'
    rw [List.getD_eq_getElem?_getD, List.getElem?_eq_getElem (by omega), Option.getD_some] at this
    rw [List.getElem_take, this]
    rfl
  ·refine ⟨hB, .inr ⟨rfl, List.find?_eq_none.2 fun a ha => ?_⟩⟩
   obtain ⟨j, hj, rfl⟩ := List.getElem_of_mem ha
   have := hJ j hj
   rw [List.getD_eq_getElem?_getD, List.getElem?_eq_getElem hj, Option.getD_some] at this
   rw [this]
   decide
theorem idxTab.idx (A : Option Addr) (c : Nat) (l : List S69) (gr : Addr) (J T : Nat → World → Prop) (hJ : ∀ k W, J k W → Kd.C k69 W A l.length l) (hl : l.length ≤ c)
  (hcall : ∀ k W (A4 : Option Addr) (c4 : Nat), k < l.length → J k W → Calls Try.prog 40 #[.agg #[.string (l.getD k z69).f0, .int .i64 (l.getD k z69).f1, .int .i64 (l.getD k z69).f2, .bool (l.getD k z69).f3, .slice A4 (l.getD k z69).f4.length c4], .pointer (some gr)] W fun e W' => (e = .returned (.bool true) ∧ T k W') ∨ (e = .returned (.bool false) ∧ J (k + 1) W')) (w : World) (h0 : J 0 w) :
  Calls Try.prog 39 #[.slice A l.length c, .func (.func 40) #[] #[.pointer (some gr)]] w fun e W' => (∃ k : Nat, k < l.length ∧ e = .returned (.int .i64 (k : Int)) ∧ T k W') ∨ (e = .returned (.int .i64 (-1)) ∧ J l.length W') := by
 have hm := Kd.qEI (hJ 0 w h0)
 have H0 := qA0.mk h0
 clear h0
 go_enter Try.func39, Try.ntmps39
 go_wp2
 go_loopw [5, 8] (fun _ i wr => ∃ k : Nat, k ≤ l.length ∧ i = .int .i64 k ∧ qA0 (J k wr)) (fun _ i _ => l.length - (intOf i).toNat)
 case atStart => exact ⟨0, Nat.zero_le _, rfl, H0⟩
 case round =>
  obtain ⟨k, hk, rfl, HJ⟩ := hrel
  by_cases hlt : k < l.length
  ·have hC := hJ k wr HJ.out
   obtain ⟨ad, A4, c4, rfl, hx0, hx1, hx2, hx3, hx4, hl4, hi4⟩ := at_T69 hC (k : Int) (by omega) (by omega)
   have e_ : qAL l (k : Int) = l.getD k z69 := by simp [qAL]
   rw [e_] at hx0 hx1 hx2 hx3 hx4 hl4 hi4
   simp only [Int.toNat_natCast] at hx0 hx1 hx2 hx3 hx4
   clear hC e_ hl4 hi4
   have HC := qA0.mk (hcall k wr A4 c4 hlt HJ.out)
   clear hcall
   generalize l.getD k z69 = y at *
   go_wp2_with fail
   refine HC.out.mono ?_
   rintro e w' (⟨rfl, ht⟩ | ⟨rfl, hj⟩)
   ·have HT := qA0.mk ht
    clear ht
    go_wp2_with fail
    go_ret
    exact .inl ⟨k, hlt, rfl, HT.out⟩
   ·have HJ2 := qA0.mk hj
    clear hj
    go_wp2_with fail
    go_roundw
    case rel => exact ⟨k + 1, by omega, by go_num, HJ2⟩
    case measure => simp [intOf]; omega
  ·obtain rfl : k = l.length := by omega
   go_wp2_with fail
   go_ret
   exact .inr ⟨rfl, HJ.out⟩
theorem idxTab.pred (x : S69) (A4 : Option Addr) (c4 : Nat) (gr : Nat) (q : ByteArray) (W : World) (hq : W.cell? ⟨gr, 1, none⟩ = some (.string q)) :
  Calls Try.prog 40 #[.agg #[.string x.f0, .int .i64 x.f1, .int .i64 x.f2, .bool x.f3, .slice A4 x.f4.length c4], .pointer (some ⟨gr, 0, none⟩)] W fun e W' => e = .returned (.bool (x.f0.toList == q.toList)) ∧ Below W.heap.size W W' := by
 have hB : Below W.heap.size W (W.alloc (.cells #[.string x.f0, .int .i64 x.f1, .int .i64 x.f2, .bool x.f3, .slice A4 x.f4.length c4] 69)) := qAG (Below.refl _ _) _
 have hq' := qAH hB hq
 have HB := qA0.mk hB
 clear hB
 go_enter Try.func40, Try.ntmps40
 go_wp2_with fail
 go_ret
 exact ⟨rfl, HB.out⟩
theorem idxTab.first (A : Option Addr) (c : Nat) (l : List S69) (gr : Nat) (q : ByteArray) (w : World) (hC : Kd.C k69 w A l.length l) (hl : l.length ≤ c) (hq : w.cell? ⟨gr, 1, none⟩ = some (.string q)) :
  Calls Try.prog 39 #[.slice A l.length c, .func (.func 40) #[] #[.pointer (some ⟨gr, 0, none⟩)]] w fun e W' => Below w.heap.size w W' ∧ ((∃ k : Nat, k < l.length ∧ e = .returned (.int .i64 (k : Int)) ∧ l.find? (fun x => x.f0.toList == q.toList) = some (l.getD k z69)) ∨ (e = .returned (.int .i64 (-1)) ∧ l.find? (fun x => x.f0.toList == q.toList) = none)) := by
 refine (idxTab.idx A c l ⟨gr, 0, none⟩ (fun k W => Below w.heap.size w W ∧ ∀ j, j < k → ((l.getD j z69).f0.toList == q.toList) = false) (fun k W => Below w.heap.size w W ∧ ((l.getD k z69).f0.toList == q.toList) = true ∧ ∀ j, j < k → ((l.getD j z69).f0.toList == q.toList) = false) (fun k W hW => Kd.qAQ hC hW.1) hl ?_ w ⟨Below.refl _ _, fun j hj => absurd hj (by omega)⟩).mono ?_
 ·rintro k W A4 c4 hk ⟨hB, hJ⟩
  refine (idxTab.pred (l.getD k z69) A4 c4 gr q W (qAH hB hq)).mono ?_
  rintro e W' ⟨rfl, hb⟩
  cases hp : ((l.getD k z69).f0.toList == q.toList)
  ·refine .inr ⟨rfl, qA1 hB hb, fun j hj => ?_⟩
   rcases Nat.lt_or_ge j k with h | h
   ·exact hJ j h
   ·obtain rfl : j = k := by omega
    exact hp
  ·exact .inl ⟨rfl, qA1 hB hb, rfl, hJ⟩
 ·rintro e W' (⟨k, hk, rfl, hB, hp, hJ⟩ | ⟨rfl, hB, hJ⟩)
  ·refine ⟨hB, .inl ⟨k, hk, rfl, List.find?_eq_some_iff_append.2 ⟨hp, l.take k, l.drop (k + 1), ?_, fun a ha => ?_⟩⟩⟩
   ·rw [List.getD_eq_getElem?_getD, List.getElem?_eq_getElem hk, Option.getD_some, ← List.drop_eq_getElem_cons hk, List.take_append_drop]
   ·obtain ⟨j, hj, rfl⟩ := List.getElem_of_mem ha
    have hj' : j < k := by rw [List.length_take] at hj; omega
    have := hJ j hj'
    rw [List.getD_eq_getElem?_getD, List.getElem?_eq_getElem (by omega), Option.getD_some] at this
    rw [List.getElem_take, this]
    rfl
  ·refine ⟨hB, .inr ⟨rfl, List.find?_eq_none.2 fun a ha => ?_⟩⟩
   obtain ⟨j, hj, rfl⟩ := List.getElem_of_mem ha
   have := hJ j hj
   rw [List.getD_eq_getElem?_getD, List.getElem?_eq_getElem hj, Option.getD_some] at this
   rw [this]
   decide
theorem idxArt.idx (A : Option Addr) (c : Nat) (l : List S54) (gr : Addr) (J T : Nat → World → Prop) (hJ : ∀ k W, J k W → Kd.C k54 W A l.length l) (hl : l.length ≤ c)
  (hcall : ∀ k W (A2 : Option Addr) (c2 : Nat) (A3 : Option Addr) (c3 : Nat) (A4 : Option Addr) (c4 : Nat), k < l.length → J k W → Calls Try.prog 42 #[.agg #[.string (l.getD k z54).f0, .string (l.getD k z54).f1, .slice A2 (l.getD k z54).f2.length c2, .slice A3 (l.getD k z54).f3.length c3, .slice A4 (l.getD k z54).f4.length c4, .int .i64 (l.getD k z54).f5], .pointer (some gr)] W fun e W' => (e = .returned (.bool true) ∧ T k W') ∨ (e = .returned (.bool false) ∧ J (k + 1) W')) (w : World) (h0 : J 0 w) :
  Calls Try.prog 41 #[.slice A l.length c, .func (.func 42) #[] #[.pointer (some gr)]] w fun e W' => (∃ k : Nat, k < l.length ∧ e = .returned (.int .i64 (k : Int)) ∧ T k W') ∨ (e = .returned (.int .i64 (-1)) ∧ J l.length W') := by
 have hm := Kd.qEI (hJ 0 w h0)
 have H0 := qA0.mk h0
 clear h0
 go_enter Try.func41, Try.ntmps41
 go_wp2
 go_loopw [5, 8] (fun _ i wr => ∃ k : Nat, k ≤ l.length ∧ i = .int .i64 k ∧ qA0 (J k wr)) (fun _ i _ => l.length - (intOf i).toNat)
 case atStart => exact ⟨0, Nat.zero_le _, rfl, H0⟩
 case round =>
  obtain ⟨k, hk, rfl, HJ⟩ := hrel
  by_cases hlt : k < l.length
  ·have hC := hJ k wr HJ.out
   obtain ⟨ad, A2, c2, A3, c3, A4, c4, rfl, hx0, hx1, hx2, hx3, hx4, hx5, hl2, hi2, hl3, hi3, hl4, hi4⟩ := at_T54 hC (k : Int) (by omega) (by omega)
   have e_ : qAY l (k : Int) = l.getD k z54 := by simp [qAY]
   rw [e_] at hx0 hx1 hx2 hx3 hx4 hx5 hl2 hi2 hl3 hi3 hl4 hi4
   simp only [Int.toNat_natCast] at hx0 hx1 hx2 hx3 hx4 hx5
   clear hC e_ hl2 hi2 hl3 hi3 hl4 hi4
   have HC := qA0.mk (hcall k wr A2 c2 A3 c3 A4 c4 hlt HJ.out)
   clear hcall
   generalize l.getD k z54 = y at *
   go_wp2_with fail
   refine HC.out.mono ?_
   rintro e w' (⟨rfl, ht⟩ | ⟨rfl, hj⟩)
   ·have HT := qA0.mk ht
    clear ht
    go_wp2_with fail
    go_ret
    exact .inl ⟨k, hlt, rfl, HT.out⟩
   ·have HJ2 := qA0.mk hj
    clear hj
    go_wp2_with fail
    go_roundw
    case rel => exact ⟨k + 1, by omega, by go_num, HJ2⟩
    case measure => simp [intOf]; omega
  ·obtain rfl : k = l.length := by omega
   go_wp2_with fail
   go_ret
   exact .inr ⟨rfl, HJ.out⟩
theorem idxArt.pred (x : S54) (A2 : Option Addr) (c2 : Nat) (A3 : Option Addr) (c3 : Nat) (A4 : Option Addr) (c4 : Nat) (gr : Nat) (q : ByteArray) (W : World) (hq : W.cell? ⟨gr, 1, none⟩ = some (.string q)) :
  Calls Try.prog 42 #[.agg #[.string x.f0, .string x.f1, .slice A2 x.f2.length c2, .slice A3 x.f3.length c3, .slice A4 x.f4.length c4, .int .i64 x.f5], .pointer (some ⟨gr, 0, none⟩)] W fun e W' => e = .returned (.bool (x.f0.toList == q.toList)) ∧ Below W.heap.size W W' := by
 have hB : Below W.heap.size W (W.alloc (.cells #[.string x.f0, .string x.f1, .slice A2 x.f2.length c2, .slice A3 x.f3.length c3, .slice A4 x.f4.length c4, .int .i64 x.f5] 54)) := qAG (Below.refl _ _) _
 have hq' := qAH hB hq
 have HB := qA0.mk hB
 clear hB
 go_enter Try.func42, Try.ntmps42
 go_wp2_with fail
 go_ret
 exact ⟨rfl, HB.out⟩
theorem idxArt.first (A : Option Addr) (c : Nat) (l : List S54) (gr : Nat) (q : ByteArray) (w : World) (hC : Kd.C k54 w A l.length l) (hl : l.length ≤ c) (hq : w.cell? ⟨gr, 1, none⟩ = some (.string q)) :
  Calls Try.prog 41 #[.slice A l.length c, .func (.func 42) #[] #[.pointer (some ⟨gr, 0, none⟩)]] w fun e W' => Below w.heap.size w W' ∧ ((∃ k : Nat, k < l.length ∧ e = .returned (.int .i64 (k : Int)) ∧ l.find? (fun x => x.f0.toList == q.toList) = some (l.getD k z54)) ∨ (e = .returned (.int .i64 (-1)) ∧ l.find? (fun x => x.f0.toList == q.toList) = none)) := by
 refine (idxArt.idx A c l ⟨gr, 0, none⟩ (fun k W => Below w.heap.size w W ∧ ∀ j, j < k → ((l.getD j z54).f0.toList == q.toList) = false) (fun k W => Below w.heap.size w W ∧ ((l.getD k z54).f0.toList == q.toList) = true ∧ ∀ j, j < k → ((l.getD j z54).f0.toList == q.toList) = false) (fun k W hW => Kd.qAQ hC hW.1) hl ?_ w ⟨Below.refl _ _, fun j hj => absurd hj (by omega)⟩).mono ?_
 ·rintro k W A2 c2 A3 c3 A4 c4 hk ⟨hB, hJ⟩
  refine (idxArt.pred (l.getD k z54) A2 c2 A3 c3 A4 c4 gr q W (qAH hB hq)).mono ?_
  rintro e W' ⟨rfl, hb⟩
  cases hp : ((l.getD k z54).f0.toList == q.toList)
  ·refine .inr ⟨rfl, qA1 hB hb, fun j hj => ?_⟩
   rcases Nat.lt_or_ge j k with h | h
   ·exact hJ j h
   ·obtain rfl : j = k := by omega
    exact hp
  ·exact .inl ⟨rfl, qA1 hB hb, rfl, hJ⟩
 ·rintro e W' (⟨k, hk, rfl, hB, hp, hJ⟩ | ⟨rfl, hB, hJ⟩)
  ·refine ⟨hB, .inl ⟨k, hk, rfl, List.find?_eq_some_iff_append.2 ⟨hp, l.take k, l.drop (k + 1), ?_, fun a ha => ?_⟩⟩⟩
   ·rw [List.getD_eq_getElem?_getD, List.getElem?_eq_getElem hk, Option.getD_some, ← List.drop_eq_getElem_cons hk, List.take_append_drop]
   ·obtain ⟨j, hj, rfl⟩ := List.getElem_of_mem ha
    have hj' : j < k := by rw [List.length_take] at hj; omega
    have := hJ j hj'
    rw [List.getD_eq_getElem?_getD, List.getElem?_eq_getElem (by omega), Option.getD_some] at this
    rw [List.getElem_take, this]
    rfl
  ·refine ⟨hB, .inr ⟨rfl, List.find?_eq_none.2 fun a ha => ?_⟩⟩
   obtain ⟨j, hj, rfl⟩ := List.getElem_of_mem ha
   have := hJ j hj
   rw [List.getD_eq_getElem?_getD, List.getElem?_eq_getElem hj, Option.getD_some] at this
   rw [this]
   decide
def qE0 (b : List S48) (r0 r1 : ByteArray) (r2 r3 : Int) : Option (Int × Int) :=
 (b.find? fun x => x.f0.toList == r0.toList).bind fun a =>
  if r2 = 2 ∨ r2 = 3 then (a.f4.find? fun t => t.f0.toList == r1.toList).bind fun t =>
   if r3 < 0 ∨ (t.f4.length : Int) ≤ r3 then none
   else some (if r2 = 2 then ((t.f4.getD r3.toNat z76).f0, t.f1) else ((t.f4.getD r3.toNat z76).f1, if t.f3 = true then 6 else t.f2))
  else (a.f5.find? fun x => x.f0.toList == r1.toList).bind fun x =>
   if r2 ≠ 0 ∧ r2 ≠ 1 then none
   else if r3 < 0 ∨ (((if r2 = 1 then x.f3 else x.f2).length : Nat) : Int) ≤ r3 then none
   else if ((if r2 = 1 then x.f3 else x.f2).getD r3.toNat z80).f0 ≠ 0 ∨ ((if r2 = 1 then x.f3 else x.f2).getD r3.toNat z80).f2 = 1 then none
   else some (((if r2 = 1 then x.f3 else x.f2).getD r3.toNat z80).f3, ((if r2 = 1 then x.f3 else x.f2).getD r3.toNat z80).f2)
theorem qCY {P : Program} {ops : Array Oper} {rest : List Oper} {o : Oper} {a : Act} {Q : Exit → Act → World → Prop} {W : World} {t : TypeId} {p x : Tmp} (ho : o.op = .store t (.tmp p) (.tmp x)) (hgd : o.guard = none) (hN : o.dst = none) {g : Nat} {u : Value} {cur : Array Value} {e : TypeId}
  (ha : a.eval (.tmp p) = .pointer (some ⟨g, 0, none⟩)) (hx : a.eval (.tmp x) = u) (hh : W.heap[g]? = some (.cells cur e (0, 0))) (seg : List Value) (hu : u.cells.toList = seg) (ht : (P.info? t).map (·.size) = some seg.length) (hl : cur.size = seg.length) (h1 : ∀ q ∈ seg, q.oneCell' = true)
  (h : ∀ w1, w1.heap[g]? = some (.cells seg.toArray e (0, 0)) → (∀ k, k ≠ g → w1.heap[k]? = W.heap[k]?) → (∀ B a, Below B a W → B ≤ g → Below B a w1) → wpList P ops Q rest a w1) : wpList P ops Q (o :: rest) a W := by
 have hrun := run_store_run (P := P) (o := 0) t u seg hh hu ht (by omega) h1
 obtain ⟨cur', h3, _, h5⟩ := setCells_row seg 0 W cur hh (by omega)
 obtain ⟨s1, s2, s3, s4⟩ := setCells_same g seg 0 W
 have e1 : cur' = seg.toArray := by
  apply Array.toList_inj.1
  rw [h5, List.take_zero, List.nil_append, List.drop_eq_nil_of_le (by simp; omega), List.append_nil]
 refine wpList_plain hgd fun K hK => ?_
 unfold Oper.wp execOp
 simp only [ho, ha, hx, Sem.run_bind, Sem.run_pure, Result.andThen_ok, hrun]
 show K (a.put o.dst undef) _
 rw [hN]
 exact hK a _ (h _ (e1 ▸ h3) (fun k hk => setCells_far seg 0 k hk) (fun B a HB hg => ⟨s1.trans HB.os, s2.trans HB.tape, s3.trans HB.output, by rw [s4]; exact HB.size, fun k hk => (setCells_far seg 0 k (by omega)).trans (HB.block k hk)⟩))
set_option maxHeartbeats 4000000 in
set_option maxRecDepth 100000 in
theorem rate_place.walk (A : Option Addr) (c : Nat) (b : List S48) (r0 r1 : ByteArray) (r2 r3 : Int) (w : World) (hC : Kd.C k48 w A b.length b) (hl : b.length ≤ c) :
  Calls Try.prog 22 #[.slice A b.length c, .agg #[.string r0, .string r1, .int .i64 r2, .int .i64 r3]] w fun e W' => Below w.heap.size w W' ∧ ((e = .returned (.tuple #[.pointer none, .int .i64 0]) ∧ qE0 b r0 r1 r2 r3 = none) ∨ (∃ (a : Addr) (n kd : Int), e = .returned (.tuple #[.pointer (some a), .int .i64 kd]) ∧ W'.cell? a = some (.int .i64 n) ∧ qE0 b r0 r1 r2 r3 = some (n, kd))) := by
 have hm := Kd.qEI hC
 have hB : Below w.heap.size w (w.alloc (.cells #[.string r0, .string r1, .int .i64 r2, .int .i64 r3] 25)) := qAG (Below.refl _ _) _
 have hblk : (w.alloc (.cells #[.string r0, .string r1, .int .i64 r2, .int .i64 r3] 25)).heap[w.heap.size]? = some (.cells #[.string r0, .string r1, .int .i64 r2, .int .i64 r3] 25) := heap_alloc_new w _
 have hC1 := Kd.qAQ hC hB
 have hI := idxAct.first A c b w.heap.size r0 _ hC1 hl ((qA4 hblk 0).trans rfl)
 have hlt1 : w.heap.size < (w.alloc (.cells #[.string r0, .string r1, .int .i64 r2, .int .i64 r3] 25)).heap.size := Gen.qBH hblk
 have HI := qA0.mk hI
 have HC := qA0.mk (And.intro hC1 (And.intro hB (And.intro hblk hlt1)))
 clear hI hC hB hC1 hblk hlt1
 go_enter Try.func22, Try.ntmps22
 go_wp2_with fail
 refine HI.out.mono ?_
 rintro e W2 ⟨hb, (⟨k, hk, rfl, hf⟩ | ⟨rfl, hf⟩)⟩
 ·have hC2 := Kd.qAQ HC.out.1 hb
  have hblk2 := (hb.block _ HC.out.2.2.2).trans HC.out.2.2.1
  have hB2 := qA1 HC.out.2.1 hb
  clear HI
  obtain ⟨ad, A3, c3, A4, c4, A5, c5, rfl, hx0, hx1, hx2, hx3, hx4, hx5, hl3, hi3, hl4, hi4, hl5, hi5⟩ := qEM hC2 (k : Int) (by omega) (by omega)
  have e_ : qA3 b (k : Int) = b.getD k z48 := by simp [qA3]
  rw [e_] at hx0 hx1 hx2 hx3 hx4 hx5 hl3 hi3 hl4 hi4 hl5 hi5
  simp only [Int.toNat_natCast] at hx0 hx1 hx2 hx3 hx4 hx5
  have hr2 := (qA4 hblk2 2).trans rfl
  generalize hy : b.getD k z48 = y at *
  have hpl : qE0 b r0 r1 r2 r3 = (if r2 = 2 ∨ r2 = 3 then (y.f4.find? fun t => t.f0.toList == r1.toList).bind fun t =>
   if r3 < 0 ∨ (t.f4.length : Int) ≤ r3 then none
   else some (if r2 = 2 then ((t.f4.getD r3.toNat z76).f0, t.f1) else ((t.f4.getD r3.toNat z76).f1, if t.f3 = true then 6 else t.f2))
  else (y.f5.find? fun x => x.f0.toList == r1.toList).bind fun x =>
   if r2 ≠ 0 ∧ r2 ≠ 1 then none
   else if r3 < 0 ∨ (((if r2 = 1 then x.f3 else x.f2).length : Nat) : Int) ≤ r3 then none
   else if ((if r2 = 1 then x.f3 else x.f2).getD r3.toNat z80).f0 ≠ 0 ∨ ((if r2 = 1 then x.f3 else x.f2).getD r3.toNat z80).f2 = 1 then none
   else some (((if r2 = 1 then x.f3 else x.f2).getD r3.toNat z80).f3, ((if r2 = 1 then x.f3 else x.f2).getD r3.toNat z80).f2)) := by
   unfold qE0; rw [hf]; rfl
  by_cases hp : r2 = 2 ∨ r2 = 3
  ·rw [if_pos hp] at hpl
   have hI4 := idxTab.first A4 c4 y.f4 w.heap.size r1 W2 hi4 hl4 ((qA4 hblk2 1).trans rfl)
   have HI4 := qA0.mk hI4
   have HK := qA0.mk (And.intro hi4 (And.intro hl4 (And.intro hblk2 (And.intro hB2 hpl))))
   clear hI4 hpl hf hi3 hi4 hi5 hC2 hblk2 hB2 HC hl3 hl5 hb
   rcases hp with hp | hp
   ·go_wp2_with fail
    refine HI4.out.mono ?_
    rintro e W3 ⟨hb3, (⟨j, hj, rfl, hf3⟩ | ⟨rfl, hf3⟩)⟩
    ·have hC3 := Kd.qAQ HK.out.1 hb3
     have hblk3 := (hb3.block _ (Gen.qBH HK.out.2.2.1)).trans HK.out.2.2.1
     have hB3 := qA1 HK.out.2.2.2.1 hb3
     have hx43 := qAH hb3 hx4
     have hpl3 := HK.out.2.2.2.2
     rw [hf3, Option.bind_some] at hpl3
     have hlj := HK.out.2.1
     clear HI4 HK hf3 hx0 hx1 hx2 hx3 hx4 hx5
     obtain ⟨at_, B4, d4, rfl, ht0, ht1, ht2, ht3, ht4, hl4', hi4'⟩ := at_T69 hC3 (j : Int) (by omega) (by omega)
     have e_ : qAL y.f4 (j : Int) = y.f4.getD j z69 := by simp [qAL]
     rw [e_] at ht0 ht1 ht2 ht3 ht4 hl4' hi4'
     simp only [Int.toNat_natCast] at ht0 ht1 ht2 ht3 ht4
     have hr2 : W3.cell? ⟨w.heap.size, 2, none⟩ = some (.int .i64 _) := (qA4 hblk3 2).trans rfl
     have hr3 : W3.cell? ⟨w.heap.size, 3, none⟩ = some (.int .i64 r3) := (qA4 hblk3 3).trans rfl
     have hj0 : decide ((j : Int) < 0) = false := by simp
     clear e_ hC3
     generalize y.f4.getD j z69 = t at *
     by_cases hq : r3 < 0 ∨ (t.f4.length : Int) ≤ r3
     ·rw [if_pos hq] at hpl3
      have HZ := qA0.mk (And.intro hB3 hpl3)
      clear hB3 hpl3 hi4'
      by_cases hq0 : r3 < 0
      ·have hd : decide (r3 < 0) = true := by simpa using hq0
       go_wp2_with fail
       go_quiet (fail)
       go_wp2_with fail
       go_ret2
       exact ⟨qA8 HZ.out.1 _, .inl ⟨rfl, HZ.out.2⟩⟩
      ·have hd : decide (r3 < 0) = false := by simpa using hq0
       have hq1 : (t.f4.length : Int) ≤ r3 := hq.resolve_left hq0
       go_wp2_with fail
       go_quiet (fail)
       go_wp2_with fail
       go_ret2
       exact ⟨qA8 HZ.out.1 _, .inl ⟨rfl, HZ.out.2⟩⟩
     ·rw [if_neg hq] at hpl3
      have HZ := qA0.mk (And.intro hB3 hpl3)
      clear hB3 hpl3
      have hq0 : ¬ r3 < 0 := fun h => hq (.inl h)
      have hq1 : ¬ (t.f4.length : Int) ≤ r3 := fun h => hq (.inr h)
      have hd : decide (r3 < 0) = false := by simpa using hq0
      go_wp2_with fail
      go_quiet (fail)
      obtain ⟨as_, rfl, hs0, hs1⟩ := at_T76 hi4' r3 (by omega) (by omega)
      have e_ : qCK t.f4 r3 = t.f4.getD r3.toNat z76 := by simp [qCK]
      rw [e_] at hs0 hs1
      generalize t.f4.getD r3.toNat z76 = s at *
      have hltw : w.heap.size < W3.heap.size := Gen.qBH hblk3
      go_wp2_with ((with_reducible refine qCB (t := 69) (p := 8) rfl ?_); refine qCY (t := 69) (p := 8) (g := W3.heap.size) (cur := #[.string ⟨#[]⟩, .int .i64 0, .int .i64 0, .bool false, .slice none 0 0]) (e := 69) rfl rfl rfl rfl rfl (heap_alloc_new _ _) [.string t.f0, .int .i64 t.f1, .int .i64 t.f2, .bool t.f3, .slice (some as_) t.f4.length d4] rfl rfl rfl ?h1 ?_; (case h1 => intro q hq_; simp only [List.mem_cons, List.not_mem_nil, or_false] at hq_; rcases hq_ with rfl | rfl | rfl | rfl | rfl <;> rfl); intro w4 hblk4 hsame hB4; have hB34 := hB4 _ _ (qAG (qA8 (Below.refl W3.heap.size W3) _) _) (Nat.le_refl _); have hr24 := qAH hB34 hr2; have hr34 := qAH hB34 hr3; have hs04 := qAH hB34 hs0; have hs14 := qAH hB34 hs1; have u0 : w4.cell? ⟨W3.heap.size, 0, none⟩ = some (.string t.f0) := (qA4 hblk4 0).trans rfl; have u1 : w4.cell? ⟨W3.heap.size, 1, none⟩ = some (.int .i64 t.f1) := (qA4 hblk4 1).trans rfl; have u2 : w4.cell? ⟨W3.heap.size, 2, none⟩ = some (.int .i64 t.f2) := (qA4 hblk4 2).trans rfl; have u3 : w4.cell? ⟨W3.heap.size, 3, none⟩ = some (.bool t.f3) := (qA4 hblk4 3).trans rfl; have u4 : w4.cell? ⟨W3.heap.size, 4, none⟩ = some (.slice (some as_) t.f4.length d4) := (qA4 hblk4 4).trans rfl; have HB34 := qA0.mk hB34; clear hB34 hB4 hsame hblk4 hs0 hs1 hr2 hr3 ht0 ht1 ht2 ht3 ht4)
      repeat (go_quiet (fail); try go_wp2_with fail)
      go_ret2
      exact ⟨by repeat (first | exact qA1 HZ.out.1 HB34.out | apply qA8), .inr ⟨_, _, _, rfl, by first | exact hs04 | exact hs14, by rw [HZ.out.2]; simp [hp]⟩⟩
    ·have hB3 := qA1 HK.out.2.2.2.1 hb3
     have hpl3 := HK.out.2.2.2.2
     rw [hf3, Option.bind_none] at hpl3
     clear HI4 HK
     go_wp2_with fail
     go_quiet (fail)
     go_wp2_with fail
     go_ret2
     exact ⟨qA8 hB3 _, .inl ⟨rfl, hpl3⟩⟩
   ·go_wp2_with fail
    refine HI4.out.mono ?_
    rintro e W3 ⟨hb3, (⟨j, hj, rfl, hf3⟩ | ⟨rfl, hf3⟩)⟩
    ·have hC3 := Kd.qAQ HK.out.1 hb3
     have hblk3 := (hb3.block _ (Gen.qBH HK.out.2.2.1)).trans HK.out.2.2.1
     have hB3 := qA1 HK.out.2.2.2.1 hb3
     have hx43 := qAH hb3 hx4
     have hpl3 := HK.out.2.2.2.2
     rw [hf3, Option.bind_some] at hpl3
     have hlj := HK.out.2.1
     clear HI4 HK hf3 hx0 hx1 hx2 hx3 hx4 hx5
     obtain ⟨at_, B4, d4, rfl, ht0, ht1, ht2, ht3, ht4, hl4', hi4'⟩ := at_T69 hC3 (j : Int) (by omega) (by omega)
     have e_ : qAL y.f4 (j : Int) = y.f4.getD j z69 := by simp [qAL]
     rw [e_] at ht0 ht1 ht2 ht3 ht4 hl4' hi4'
     simp only [Int.toNat_natCast] at ht0 ht1 ht2 ht3 ht4
     have hr2 : W3.cell? ⟨w.heap.size, 2, none⟩ = some (.int .i64 _) := (qA4 hblk3 2).trans rfl
     have hr3 : W3.cell? ⟨w.heap.size, 3, none⟩ = some (.int .i64 r3) := (qA4 hblk3 3).trans rfl
     have hj0 : decide ((j : Int) < 0) = false := by simp
     clear e_ hC3
     generalize y.f4.getD j z69 = t at *
     by_cases hq : r3 < 0 ∨ (t.f4.length : Int) ≤ r3
     ·rw [if_pos hq] at hpl3
      have HZ := qA0.mk (And.intro hB3 hpl3)
      clear hB3 hpl3 hi4'
      by_cases hq0 : r3 < 0
      ·have hd : decide (r3 < 0) = true := by simpa using hq0
       go_wp2_with fail
       go_quiet (fail)
       go_wp2_with fail
       go_ret2
       exact ⟨qA8 HZ.out.1 _, .inl ⟨rfl, HZ.out.2⟩⟩
      ·have hd : decide (r3 < 0) = false := by simpa using hq0
       have hq1 : (t.f4.length : Int) ≤ r3 := hq.resolve_left hq0
       go_wp2_with fail
       go_quiet (fail)
       go_wp2_with fail
       go_ret2
       exact ⟨qA8 HZ.out.1 _, .inl ⟨rfl, HZ.out.2⟩⟩
     ·rw [if_neg hq] at hpl3
      have HZ := qA0.mk (And.intro hB3 hpl3)
      clear hB3 hpl3
      have hq0 : ¬ r3 < 0 := fun h => hq (.inl h)
      have hq1 : ¬ (t.f4.length : Int) ≤ r3 := fun h => hq (.inr h)
      have hd : decide (r3 < 0) = false := by simpa using hq0
      go_wp2_with fail
      go_quiet (fail)
      obtain ⟨as_, rfl, hs0, hs1⟩ := at_T76 hi4' r3 (by omega) (by omega)
      have e_ : qCK t.f4 r3 = t.f4.getD r3.toNat z76 := by simp [qCK]
      rw [e_] at hs0 hs1
      generalize t.f4.getD r3.toNat z76 = s at *
      have hltw : w.heap.size < W3.heap.size := Gen.qBH hblk3
      go_wp2_with ((with_reducible refine qCB (t := 69) (p := 8) rfl ?_); refine qCY (t := 69) (p := 8) (g := W3.heap.size) (cur := #[.string ⟨#[]⟩, .int .i64 0, .int .i64 0, .bool false, .slice none 0 0]) (e := 69) rfl rfl rfl rfl rfl (heap_alloc_new _ _) [.string t.f0, .int .i64 t.f1, .int .i64 t.f2, .bool t.f3, .slice (some as_) t.f4.length d4] rfl rfl rfl ?h1 ?_; (case h1 => intro q hq_; simp only [List.mem_cons, List.not_mem_nil, or_false] at hq_; rcases hq_ with rfl | rfl | rfl | rfl | rfl <;> rfl); intro w4 hblk4 hsame hB4; have hB34 := hB4 _ _ (qAG (qA8 (Below.refl W3.heap.size W3) _) _) (Nat.le_refl _); have hr24 := qAH hB34 hr2; have hr34 := qAH hB34 hr3; have hs04 := qAH hB34 hs0; have hs14 := qAH hB34 hs1; have u0 : w4.cell? ⟨W3.heap.size, 0, none⟩ = some (.string t.f0) := (qA4 hblk4 0).trans rfl; have u1 : w4.cell? ⟨W3.heap.size, 1, none⟩ = some (.int .i64 t.f1) := (qA4 hblk4 1).trans rfl; have u2 : w4.cell? ⟨W3.heap.size, 2, none⟩ = some (.int .i64 t.f2) := (qA4 hblk4 2).trans rfl; have u3 : w4.cell? ⟨W3.heap.size, 3, none⟩ = some (.bool t.f3) := (qA4 hblk4 3).trans rfl; have u4 : w4.cell? ⟨W3.heap.size, 4, none⟩ = some (.slice (some as_) t.f4.length d4) := (qA4 hblk4 4).trans rfl; have HB34 := qA0.mk hB34; clear hB34 hB4 hsame hblk4 hs0 hs1 hr2 hr3 ht0 ht1 ht2 ht3 ht4)
      all_goals (repeat (go_quiet (fail); try go_wp2_with fail))
      all_goals go_ret2
      all_goals exact ⟨by repeat (first | exact qA1 HZ.out.1 HB34.out | apply qA8), .inr ⟨_, _, _, rfl, by first | exact hs04 | exact hs14, by rw [HZ.out.2]; by_cases hts : t.f3 = true <;> first | (simp [hp, hts]; done) | exact absurd (hts.symm.trans (by assumption : t.f3 = false)) (by decide) | exact absurd hts (by assumption) | exact absurd (by assumption : t.f3 = true) hts⟩⟩
    ·have hB3 := qA1 HK.out.2.2.2.1 hb3
     have hpl3 := HK.out.2.2.2.2
     rw [hf3, Option.bind_none] at hpl3
     clear HI4 HK
     go_wp2_with fail
     go_quiet (fail)
     go_wp2_with fail
     go_ret2
     exact ⟨qA8 hB3 _, .inl ⟨rfl, hpl3⟩⟩
  ·rw [if_neg hp] at hpl
   have hI5 := idxArt.first A5 c5 y.f5 w.heap.size r1 W2 hi5 hl5 ((qA4 hblk2 1).trans rfl)
   have HI5 := qA0.mk hI5
   have HK := qA0.mk (And.intro hi5 (And.intro hl5 (And.intro hblk2 (And.intro hB2 hpl))))
   have hp2 : ¬ r2 = 2 := fun h => hp (.inl h)
   have hp3 : ¬ r2 = 3 := fun h => hp (.inr h)
   have hq2 : (r2 == 2) = false := by simpa using hp2
   have hq3 : (r2 == 3) = false := by simpa using hp3
   clear hI5 hpl hf hi3 hi4 hi5 hC2 hblk2 hB2 HC hl3 hl4 hl5 hb hp
   go_wp2_with fail
   refine HI5.out.mono ?_
   rintro e W3 ⟨hb3, (⟨j, hj, rfl, hf3⟩ | ⟨rfl, hf3⟩)⟩
   ·have hC3 := Kd.qAQ HK.out.1 hb3
    have hblk3 := (hb3.block _ (Gen.qBH HK.out.2.2.1)).trans HK.out.2.2.1
    have hB3 := qA1 HK.out.2.2.2.1 hb3
    have hx53 := qAH hb3 hx5
    have hpl3 := HK.out.2.2.2.2
    rw [hf3, Option.bind_some] at hpl3
    have hlj := HK.out.2.1
    clear HI5 HK hf3 hx0 hx1 hx2 hx3 hx4 hx5 hr2
    obtain ⟨at_, B2, d2, B3, d3, B4, d4, rfl, ht0, ht1, ht2, ht3, ht4, ht5, hl2, hi2, hl3, hi3, hl4, hi4⟩ := at_T54 hC3 (j : Int) (by omega) (by omega)
    have e_ : qAY y.f5 (j : Int) = y.f5.getD j z54 := by simp [qAY]
    rw [e_] at ht0 ht1 ht2 ht3 ht4 ht5 hl2 hi2 hl3 hi3 hl4 hi4
    simp only [Int.toNat_natCast] at ht0 ht1 ht2 ht3 ht4 ht5
    have hr2 : W3.cell? ⟨w.heap.size, 2, none⟩ = some (.int .i64 r2) := (qA4 hblk3 2).trans rfl
    have hr3 : W3.cell? ⟨w.heap.size, 3, none⟩ = some (.int .i64 r3) := (qA4 hblk3 3).trans rfl
    have hj0 : decide ((j : Int) < 0) = false := by simp
    clear e_ hC3 hl4 hi4 hblk3
    generalize y.f5.getD j z54 = x at *
    by_cases e0 : r2 = 0
    ·subst e0
     have hg0 : ((0 : Int) != 0) = false := rfl
     have hx := hi2
     clear hi2 hi3
     by_cases hq : r3 < 0 ∨ ((x.f2.length : Nat) : Int) ≤ r3
     ·have hz : qE0 b r0 r1 0 r3 = none := by rw [hpl3]; simp only [ne_eq, not_true_eq_false, false_and, if_false, Int.reduceEq, not_false_eq_true, and_true, and_false, true_and, if_true]; exact if_pos hq
      have HZ := qA0.mk (And.intro hB3 hz)
      clear hB3 hpl3 hz
      by_cases hq0 : r3 < 0
      ·have hd : decide (r3 < 0) = true := by simpa using hq0
       go_wp2_with fail
       go_ret2
       exact ⟨by repeat (first | exact HZ.out.1 | apply qA8), .inl ⟨rfl, HZ.out.2⟩⟩
      ·have hd : decide (r3 < 0) = false := by simpa using hq0
       have hq1 : (x.f2.length : Int) ≤ r3 := hq.resolve_left hq0
       have hd1 : decide ((x.f2.length : Int) ≤ r3) = true := by simpa using hq1
       go_wp2_with fail
       go_ret2
       exact ⟨by repeat (first | exact HZ.out.1 | apply qA8), .inl ⟨rfl, HZ.out.2⟩⟩
     ·have hq0 : ¬ r3 < 0 := fun h => hq (.inl h)
      have hq1 : ¬ (x.f2.length : Int) ≤ r3 := fun h => hq (.inr h)
      have hd : decide (r3 < 0) = false := by simpa using hq0
      have hd1 : decide ((x.f2.length : Int) ≤ r3) = false := by simpa using hq1
      obtain ⟨as_, D1, g1, rfl, hs0, hs1, hs2, hs3, hs4, hls1, his1⟩ := at_T80 hx r3 (by omega) (by omega)
      have e_ : qA2 x.f2 r3 = x.f2.getD r3.toNat z80 := by simp [qA2]
      rw [e_] at hs0 hs1 hs2 hs3 hs4 hls1 his1
      have hz : qE0 b r0 r1 0 r3 = (if (x.f2.getD r3.toNat z80).f0 ≠ 0 ∨ (x.f2.getD r3.toNat z80).f2 = 1 then none else some ((x.f2.getD r3.toNat z80).f3, (x.f2.getD r3.toNat z80).f2)) := by rw [hpl3]; simp only [ne_eq, not_true_eq_false, false_and, if_false, Int.reduceEq, not_false_eq_true, and_true, and_false, true_and, if_true]; exact if_neg hq
      clear e_ hls1 his1
      generalize x.f2.getD r3.toNat z80 = s at *
      have HZ := qA0.mk (And.intro hB3 hz)
      clear hB3 hpl3 hz
      by_cases e0 : s.f0 = 0
      ·have hd2 : (s.f0 == 0) = true := by simpa using e0
       have hd3 : (s.f0 != 0) = false := by simpa using e0
       by_cases e2 : s.f2 = 1
       ·have hd4 : (s.f2 == 1) = true := by simpa using e2
        go_wp2_with fail
        go_ret2
        exact ⟨by repeat (first | exact HZ.out.1 | apply qA8), .inl ⟨rfl, by rw [HZ.out.2]; simp [e2]⟩⟩
       ·have hd4 : (s.f2 == 1) = false := by simpa using e2
        go_wp2_with fail
        repeat (go_quiet (fail); try go_wp2_with fail)
        go_ret2
        exact ⟨by repeat (first | exact HZ.out.1 | apply qA8), .inr ⟨_, _, _, rfl, by exact hs3, by rw [HZ.out.2]; simp [e0, e2]⟩⟩
      ·have hd2 : (s.f0 == 0) = false := by simpa using e0
       have hd3 : (s.f0 != 0) = true := by simpa using e0
       go_wp2_with fail
       go_ret2
       exact ⟨by repeat (first | exact HZ.out.1 | apply qA8), .inl ⟨rfl, by rw [HZ.out.2]; simp [e0]⟩⟩
    ·by_cases e1 : r2 = 1
     ·subst e1
      have hg0 : ((1 : Int) != 0) = true := rfl
      have hg1 : ((1 : Int) != 1) = false := rfl
      have hx := hi3
      clear hi2 hi3
      by_cases hq : r3 < 0 ∨ ((x.f3.length : Nat) : Int) ≤ r3
      ·have hz : qE0 b r0 r1 1 r3 = none := by rw [hpl3]; simp only [ne_eq, not_true_eq_false, false_and, if_false, Int.reduceEq, not_false_eq_true, and_true, and_false, true_and, if_true]; exact if_pos hq
       have HZ := qA0.mk (And.intro hB3 hz)
       clear hB3 hpl3 hz
       by_cases hq0 : r3 < 0
       ·have hd : decide (r3 < 0) = true := by simpa using hq0
        go_wp2_with fail
        go_ret2
        exact ⟨by repeat (first | exact HZ.out.1 | apply qA8), .inl ⟨rfl, HZ.out.2⟩⟩
       ·have hd : decide (r3 < 0) = false := by simpa using hq0
        have hq1 : (x.f3.length : Int) ≤ r3 := hq.resolve_left hq0
        have hd1 : decide ((x.f3.length : Int) ≤ r3) = true := by simpa using hq1
        go_wp2_with fail
        go_ret2
        exact ⟨by repeat (first | exact HZ.out.1 | apply qA8), .inl ⟨rfl, HZ.out.2⟩⟩
      ·have hq0 : ¬ r3 < 0 := fun h => hq (.inl h)
       have hq1 : ¬ (x.f3.length : Int) ≤ r3 := fun h => hq (.inr h)
       have hd : decide (r3 < 0) = false := by simpa using hq0
       have hd1 : decide ((x.f3.length : Int) ≤ r3) = false := by simpa using hq1
       obtain ⟨as_, D1, g1, rfl, hs0, hs1, hs2, hs3, hs4, hls1, his1⟩ := at_T80 hx r3 (by omega) (by omega)
       have e_ : qA2 x.f3 r3 = x.f3.getD r3.toNat z80 := by simp [qA2]
       rw [e_] at hs0 hs1 hs2 hs3 hs4 hls1 his1
       have hz : qE0 b r0 r1 1 r3 = (if (x.f3.getD r3.toNat z80).f0 ≠ 0 ∨ (x.f3.getD r3.toNat z80).f2 = 1 then none else some ((x.f3.getD r3.toNat z80).f3, (x.f3.getD r3.toNat z80).f2)) := by rw [hpl3]; simp only [ne_eq, not_true_eq_false, false_and, if_false, Int.reduceEq, not_false_eq_true, and_true, and_false, true_and, if_true]; exact if_neg hq
       clear e_ hls1 his1
       generalize x.f3.getD r3.toNat z80 = s at *
       have HZ := qA0.mk (And.intro hB3 hz)
       clear hB3 hpl3 hz
       by_cases e0 : s.f0 = 0
       ·have hd2 : (s.f0 == 0) = true := by simpa using e0
        have hd3 : (s.f0 != 0) = false := by simpa using e0
        by_cases e2 : s.f2 = 1
        ·have hd4 : (s.f2 == 1) = true := by simpa using e2
         go_wp2_with fail
         go_ret2
         exact ⟨by repeat (first | exact HZ.out.1 | apply qA8), .inl ⟨rfl, by rw [HZ.out.2]; simp [e2]⟩⟩
        ·have hd4 : (s.f2 == 1) = false := by simpa using e2
         go_wp2_with fail
         repeat (go_quiet (fail); try go_wp2_with fail)
         go_ret2
         exact ⟨by repeat (first | exact HZ.out.1 | apply qA8), .inr ⟨_, _, _, rfl, by exact hs3, by rw [HZ.out.2]; simp [e0, e2]⟩⟩
       ·have hd2 : (s.f0 == 0) = false := by simpa using e0
        have hd3 : (s.f0 != 0) = true := by simpa using e0
        go_wp2_with fail
        go_ret2
        exact ⟨by repeat (first | exact HZ.out.1 | apply qA8), .inl ⟨rfl, by rw [HZ.out.2]; simp [e0]⟩⟩
     ·have hz : qE0 b r0 r1 r2 r3 = none := by rw [hpl3]; exact if_pos ⟨e0, e1⟩
      have hg0 : (r2 == 0) = false := by simpa using e0
      have hg1 : (r2 == 1) = false := by simpa using e1
      have hg2 : (r2 != 0) = true := by simpa using e0
      have hg3 : (r2 != 1) = true := by simpa using e1
      clear hi2 hi3 hpl3
      have HZ := qA0.mk (And.intro hB3 hz)
      clear hB3 hz
      go_wp2_with fail
      go_ret2
      exact ⟨by repeat (first | exact HZ.out.1 | apply qA8), .inl ⟨rfl, HZ.out.2⟩⟩
   ·have hB3 := qA1 HK.out.2.2.2.1 hb3
    have hpl3 := HK.out.2.2.2.2
    rw [hf3, Option.bind_none] at hpl3
    have HZ := qA0.mk (And.intro hB3 hpl3)
    have hblk3 := (hb3.block _ (Gen.qBH HK.out.2.2.1)).trans HK.out.2.2.1
    have hr2 : W3.cell? ⟨w.heap.size, 2, none⟩ = some (.int .i64 r2) := (qA4 hblk3 2).trans rfl
    clear HI5 HK hB3 hpl3 hblk3
    go_wp2_with fail
    go_ret2
    exact ⟨by repeat (first | exact HZ.out.1 | apply qA8), .inl ⟨rfl, HZ.out.2⟩⟩
 ·have hB2 := qA1 HC.out.2.1 hb
  clear HI
  go_wp2_with fail
  go_ret2
  exact ⟨hB2, .inl ⟨rfl, by unfold qE0; rw [hf]; rfl⟩⟩
def qER.f (l0 : List S48) (a1_0 a1_1 : ByteArray) (a1_2 a1_3 : Int) : Option (Int × Int × Int) :=
 (qCI.f l0).bind fun e => if e ≠ 0 then some (0, 0, e) else match qE0 l0 a1_0 a1_1 a1_2 a1_3 with
  | none => some (0, 0, 4)
  | some (n, kd) => some (kd, n, 0)
set_option maxRecDepth 100000 in
theorem qER.calls (A0 : Option Addr) (c0 : Nat) (l0 : List (S48)) (a1_0 : ByteArray) (a1_1 : ByteArray) (a1_2 : Int) (a1_3 : Int) (r1 : Int) (r2 : Int) (r3 : Int) (w : World) (hr0 : Kd.C k48 w A0 l0.length l0) (hc0 : l0.length ≤ c0) (h : qER.f l0 a1_0 a1_1 a1_2 a1_3 = some (r1, r2, r3)) :
  Calls Try.prog 6 #[.slice A0 l0.length c0, .agg #[.string a1_0, .string a1_1, .int .i64 a1_2, .int .i64 a1_3]] w fun e w' => e = .returned (.tuple #[.agg #[.int .i64 r1, .int .i64 r2], .int .i64 r3]) ∧ Below w.heap.size w w' := by
 unfold qER.f at h
 obtain ⟨e, he, h⟩ := Option.bind_eq_some_iff.1 h
 have HE := qA0.mk he
 have hN0 := heap_alloc_new (w.alloc (.cells #[.string a1_0, .string a1_1, .int .i64 a1_2, .int .i64 a1_3] 25)) (.cells #[.int .i64 0, .int .i64 0] 32)
 rw [show (w.alloc (.cells #[.string a1_0, .string a1_1, .int .i64 a1_2, .int .i64 a1_3] 25)).heap.size = w.heap.size + 1 from by simp] at hN0
 have hN := qA0.mk hN0
 clear hN0
 have HR := qA0.mk hr0
 have HC := qA0.mk hc0
 have H := qA0.mk h
 clear he hr0 hc0 h
 by_cases e0 : e = 0
 ·subst e0
  go_enter Try.func6, Try.ntmps6
  go_wp2_with fail
  refine (qCI.calls A0 c0 l0 0 _ (by repeat (first | exact HR.out | refine sC ?_)) HC.out HE.out).mono ?_
  rintro _ w1 ⟨rfl, hb0⟩
  have hb := qA1 (by repeat (first | exact Below.refl w.heap.size w | apply qAG | apply qA8 | apply qBO)) hb0
  have hblk : w1.heap[w.heap.size]? = some (.cells #[.string a1_0, .string a1_1, .int .i64 a1_2, .int .i64 a1_3] 25) := by
   have h0 : _ := hb0.block w.heap.size
   exact qA5 (by repeat (first | exact heap_alloc_new w _ | refine qD3 ?_ _ | refine qDU ?_ _)) hb0
  have q0 : w1.cell? ⟨w.heap.size, 0, none⟩ = some (.string a1_0) := (qA4 hblk 0).trans rfl
  have q1 : w1.cell? ⟨w.heap.size, 1, none⟩ = some (.string a1_1) := (qA4 hblk 1).trans rfl
  have q2 : w1.cell? ⟨w.heap.size, 2, none⟩ = some (.int .i64 a1_2) := (qA4 hblk 2).trans rfl
  have q3 : w1.cell? ⟨w.heap.size, 3, none⟩ = some (.int .i64 a1_3) := (qA4 hblk 3).trans rfl
  have hbk1 : w1.heap[w.heap.size + 1]? = some (.cells #[.int .i64 0, .int .i64 0] 32) := qA5 hN.out hb0
  clear hb0 hblk
  have HB := qA0.mk hb
  have HP := qA0.mk (rate_place.walk A0 c0 l0 a1_0 a1_1 a1_2 a1_3 w1 (Kd.qAQ HR.out hb) HC.out)
  clear hb
  go_wp2_with fail
  refine HP.out.mono ?_
  rintro _ w2 ⟨hb2, (⟨rfl, hp⟩ | ⟨ad, n, kd, rfl, hc, hp⟩)⟩
  ·have HB2 := qA0.mk (qA1 HB.out hb2)
   have h := H.out
   rw [hp] at h
   simp only [ne_eq, not_true_eq_false, if_false, Option.some.injEq, Prod.mk.injEq] at h
   obtain ⟨rfl, rfl, rfl⟩ := h
   have hbk := qA5 hbk1 hb2
   clear hb2 HP HB H hp hbk1
   go_wp2_with ((with_reducible refine qCB (t := 32) (p := 4) rfl ?_); refine qCY (t := 32) (p := 4) (g := w.heap.size + 1) (cur := #[.int .i64 0, .int .i64 0]) (e := 32) rfl rfl rfl rfl rfl ?hh [.int .i64 0, .int .i64 0] rfl rfl rfl ?h1 ?_; (case hh => repeat (first | exact hbk | refine qDU ?_ _)); (case h1 => intro q hq_; simp only [List.mem_cons, List.not_mem_nil, or_false] at hq_; rcases hq_ with rfl | rfl <;> rfl); intro w4 hblk4 hsame hB4; have HB3 := qA0.mk (hB4 _ _ (by repeat (first | exact HB2.out | apply qA8)) (Nat.le_succ _)); clear hB4 hsame HB2)
   refine bodyPost_ret (qDR rfl _ _ (w.heap.size + 1) 32 #[.int .i64 0, .int .i64 0] (0, 0) _ rfl (by repeat (first | exact hblk4 | refine qDU ?_ _)) Try.underlying32 rfl (by kernel_rfl)) rfl ?_
   exact ⟨rfl, by repeat (first | exact HB3.out | apply qA8)⟩
  ·have HB2 := qA0.mk (qA1 HB.out hb2)
   have h := H.out
   rw [hp] at h
   simp only [ne_eq, not_true_eq_false, if_false, Option.some.injEq, Prod.mk.injEq] at h
   obtain ⟨rfl, rfl, rfl⟩ := h
   have hbk := qA5 hbk1 hb2
   clear hb2 HP HB H hp hbk1
   go_wp2_with ((with_reducible refine qCB (t := 32) (p := 4) rfl ?_); refine qCY (t := 32) (p := 4) (g := w.heap.size + 1) (cur := #[.int .i64 0, .int .i64 0]) (e := 32) rfl rfl rfl rfl rfl ?hh [.int .i64 kd, .int .i64 n] rfl rfl rfl ?h1 ?_; (case hh => repeat (first | exact hbk | refine qDU ?_ _)); (case h1 => intro q hq_; simp only [List.mem_cons, List.not_mem_nil, or_false] at hq_; rcases hq_ with rfl | rfl <;> rfl); intro w4 hblk4 hsame hB4; have HB3 := qA0.mk (hB4 _ _ (by repeat (first | exact HB2.out | apply qA8)) (Nat.le_succ _)); clear hB4 hsame HB2)
   refine bodyPost_ret (qDR rfl _ _ (w.heap.size + 1) 32 #[.int .i64 kd, .int .i64 n] (0, 0) _ rfl (by repeat (first | exact hblk4 | refine qDU ?_ _)) Try.underlying32 rfl (by kernel_rfl)) rfl ?_
   exact ⟨rfl, by repeat (first | exact HB3.out | apply qA8)⟩
 ·have h := H.out
  rw [if_pos e0] at h
  simp only [Option.some.injEq, Prod.mk.injEq] at h
  obtain ⟨rfl, rfl, rfl⟩ := h
  have hg : (e == 0) = false := by simpa using e0
  have hg1 : (e != 0) = true := by simpa using e0
  clear H
  go_enter Try.func6, Try.ntmps6
  go_wp2_with fail
  refine (qCI.calls A0 c0 l0 e _ (by repeat (first | exact HR.out | refine sC ?_)) HC.out HE.out).mono ?_
  rintro _ w1 ⟨rfl, hb0⟩
  have hb := qA1 (by repeat (first | exact Below.refl w.heap.size w | apply qAG | apply qA8 | apply qBO)) hb0
  have hbk : w1.heap[w.heap.size + 1]? = some (.cells #[.int .i64 0, .int .i64 0] 32) := qA5 hN.out hb0
  clear hb0
  have HB2 := qA0.mk hb
  clear hb
  go_wp2_with ((with_reducible refine qCB (t := 32) (p := 4) rfl ?_); refine qCY (t := 32) (p := 4) (g := w.heap.size + 1) (cur := #[.int .i64 0, .int .i64 0]) (e := 32) rfl rfl rfl rfl rfl ?hh [.int .i64 0, .int .i64 0] rfl rfl rfl ?h1 ?_; (case hh => repeat (first | exact hbk | refine qDU ?_ _)); (case h1 => intro q hq_; simp only [List.mem_cons, List.not_mem_nil, or_false] at hq_; rcases hq_ with rfl | rfl <;> rfl); intro w4 hblk4 hsame hB4; have HB3 := qA0.mk (hB4 _ _ (by repeat (first | exact HB2.out | apply qA8)) (Nat.le_succ _)); clear hB4 hsame HB2)
  refine bodyPost_ret (qDR rfl _ _ (w.heap.size + 1) 32 #[.int .i64 0, .int .i64 0] (0, 0) _ rfl (by repeat (first | exact hblk4 | refine qDU ?_ _)) Try.underlying32 rfl (by kernel_rfl)) rfl ?_
  exact ⟨rfl, by repeat (first | exact HB3.out | apply qA8)⟩
def qC1.l0 : Nat → List (S25) → List (S25) → Int → Int → Option (Bool)
 | 0, _, _, _, _ => none
 | k + 1, x0, x1, x12, x13 => if x13 < x12 then (if 0 ≤ x13 then (if x13 < (x0.length : Int) then (if x13 < (x1.length : Int) then (if (!((((qBJ x0 x13).f0).toList) == (((qBJ x1 x13).f0).toList)) || (!((((qBJ x0 x13).f1).toList) == (((qBJ x1 x13).f1).toList)) || (!(((qBJ x0 x13).f2) == ((qBJ x1 x13).f2)) || (!(((qBJ x0 x13).f3) == ((qBJ x1 x13).f3)))))) = true then (some false) else (qC1.l0 k x0 x1 x12 (wrap64 (x13 + 1)))) else (none)) else (none)) else (none)) else (some true)
def qC1.f (k : Nat) (l0 : List (S25)) (l1 : List (S25)) : Option (Bool) := if (l0.length : Int) = (l1.length : Int) then (qC1.l0 k l0 l1 (l0.length : Int) 0) else (some false)
set_option maxHeartbeats 8000000 in
set_option maxRecDepth 100000 in
theorem qC1.calls (k : Nat) (A0 : Option Addr) (c0 : Nat) (l0 : List (S25)) (A1 : Option Addr) (c1 : Nat) (l1 : List (S25)) (r : Bool) (w : World) (hr0 : Kd.C k25 w A0 l0.length l0) (hc0 : l0.length ≤ c0) (hr1 : Kd.C k25 w A1 l1.length l1) (hc1 : l1.length ≤ c1) (h : qC1.f k l0 l1 = some r) :
  Calls Try.prog 9 #[.slice A0 l0.length c0, .slice A1 l1.length c1] w fun e w' => e = .returned (.bool r) ∧ qAE w w' := by
 have hu25 := Try.underlying25
 have HR0 := qA0.mk hr0
 have HC0 := qA0.mk hc0
 clear hr0 hc0
 have HR1 := qA0.mk hr1
 have HC1 := qA0.mk hc1
 clear hr1 hc1
 have H : (if (l0.length : Int) = (l1.length : Int) then (qC1.l0 k l0 l1 (l0.length : Int) 0) else (some false)) = some r := h
 clear h
 by_cases c3 : (l0.length : Int) = (l1.length : Int)
 ·rw [if_pos c3] at H
  have ⟨c3b0, c3b1⟩ := ze c3
  have c3b2 : (l0.length == l1.length) = true := by first | simpa using c3 | (simp at c3 ⊢; omega)
  clear c3
  have H' := qA0.mk H
  clear H
  go_enter Try.func9, Try.ntmps9
  go_wp2
  go_loopg [13] k (fun kq v13 w' => ∃ (x13_1 : Int), v13 = .int .i64 x13_1 ∧ qA0 (qC1.l0 kq l0 l1 (l0.length : Int) x13_1 = some r) ∧ qA0 (kq ≤ k) ∧ qAE w w')
  case atStart => exact ⟨(0), zs, H', ⟨Nat.le_refl _⟩, by repeat (first | exact qAE.refl _ | apply qAE.step)⟩
  case round =>
   clear H' c3b0 c3b1 c3b2
   obtain ⟨x13_1, rfl, HA, HK1, ⟨m1, rfl⟩⟩ := hrel
   cases gk with
   | zero => exact absurd HA.out (by simp [qC1.l0])
   | succ k1 =>
    have H := HA.out
    clear HA
    simp only [qC1.l0] at H
    by_cases c4 : x13_1 < (l0.length : Int)
    ·rw [if_pos c4] at H
     have c4b0 := decide_eq_true c4
     clear c4
     by_cases c5 : 0 ≤ x13_1
     ·rw [if_pos c5] at H
      have c5b0 := decide_eq_true c5
      clear c5
      by_cases c6 : x13_1 < (l0.length : Int)
      ·rw [if_pos c6] at H
       have c6b0 := decide_eq_true c6
       clear c6
       by_cases c7 : x13_1 < (l1.length : Int)
       ·rw [if_pos c7] at H
        have c7b0 := decide_eq_true c7
        clear c7
        by_cases c8 : (!((((qBJ l0 x13_1).f0).toList) == (((qBJ l1 x13_1).f0).toList)) || (!((((qBJ l0 x13_1).f1).toList) == (((qBJ l1 x13_1).f1).toList)) || (!(((qBJ l0 x13_1).f2) == ((qBJ l1 x13_1).f2)) || (!(((qBJ l0 x13_1).f3) == ((qBJ l1 x13_1).f3)))))) = true
        ·rw [if_pos c8] at H
         have c8b0 : (!((((qBJ l0 x13_1).f0).toList) == (((qBJ l1 x13_1).f0).toList)) || (!((((qBJ l0 x13_1).f1).toList) == (((qBJ l1 x13_1).f1).toList)) || (!(((qBJ l0 x13_1).f2) == ((qBJ l1 x13_1).f2)) || (!(((qBJ l0 x13_1).f3) == ((qBJ l1 x13_1).f3)))))) = true := c8
         clear c8
         obtain rfl := Option.some.inj H
         have p419 : 0 ≤ (x13_1 : Int) := zd
         have q419 : x13_1 < (l0.length : Int) := zd
         obtain ⟨ad419, e419, hx419_0, hx419_1, hx419_2, hx419_3⟩ := at_T25 HR0.out x13_1 p419 q419
         cases e419
         replace p419 := eq_true p419
         replace q419 := eq_true q419
         have p420 : 0 ≤ (x13_1 : Int) := zd
         have q420 : x13_1 < (l1.length : Int) := zd
         obtain ⟨ad420, e420, hx420_0, hx420_1, hx420_2, hx420_3⟩ := at_T25 HR1.out x13_1 p420 q420
         cases e420
         replace p420 := eq_true p420
         replace q420 := eq_true q420
         go_wp2
         repeat (go_quiet (fail); try go_wp2)
         go_ret
         exact ⟨by first | rfl | (simp; done) | (simp [*]; done), by repeat (first | exact qAE.refl _ | apply qAE.step)⟩
        ·rw [if_neg c8] at H
         have c8b0 : (!((((qBJ l0 x13_1).f0).toList) == (((qBJ l1 x13_1).f0).toList)) || (!((((qBJ l0 x13_1).f1).toList) == (((qBJ l1 x13_1).f1).toList)) || (!(((qBJ l0 x13_1).f2) == ((qBJ l1 x13_1).f2)) || (!(((qBJ l0 x13_1).f3) == ((qBJ l1 x13_1).f3)))))) = false := by simpa using c8
         clear c8
         have H' := qA0.mk H
         clear H
         have p419 : 0 ≤ (x13_1 : Int) := zd
         have q419 : x13_1 < (l0.length : Int) := zd
         obtain ⟨ad419, e419, hx419_0, hx419_1, hx419_2, hx419_3⟩ := at_T25 HR0.out x13_1 p419 q419
         cases e419
         replace p419 := eq_true p419
         replace q419 := eq_true q419
         have p420 : 0 ≤ (x13_1 : Int) := zd
         have q420 : x13_1 < (l1.length : Int) := zd
         obtain ⟨ad420, e420, hx420_0, hx420_1, hx420_2, hx420_3⟩ := at_T25 HR1.out x13_1 p420 q420
         cases e420
         replace p420 := eq_true p420
         replace q420 := eq_true q420
         go_wp2
         repeat (go_quiet (fail); try go_wp2)
         go_roundg k1
         case measure => have := HK1.out; omega
         case rel => exact ⟨(wrap64 (x13_1 + 1)), zs, H', ⟨by have := HK1.out; omega⟩, by repeat (first | exact qAE.refl _ | apply qAE.step)⟩
       ·rw [if_neg c7] at H
        exact absurd H (by simp)
      ·rw [if_neg c6] at H
       exact absurd H (by simp)
     ·rw [if_neg c5] at H
      exact absurd H (by simp)
    ·rw [if_neg c4] at H
     have c4b0 := decide_eq_false c4
     clear c4
     obtain rfl := Option.some.inj H
     go_wp2
     go_ret
     exact ⟨by first | rfl | (simp; done) | (simp [*]; done), by repeat (first | exact qAE.refl _ | apply qAE.step)⟩
 ·rw [if_neg c3] at H
  have ⟨c3b0, c3b1⟩ := zn c3
  have c3b2 : (l0.length == l1.length) = false := by first | simpa using c3 | (simp at c3 ⊢; omega)
  obtain rfl := Option.some.inj H
  go_enter Try.func9, Try.ntmps9
  go_wp2
  go_ret
  exact ⟨by first | rfl | (simp; done) | (simp [*]; done), by repeat (first | exact qAE.refl _ | apply qAE.step)⟩
def qDB.f (a0 : Int) : Option ((List (S48))) := some (([(⟨(⟨#[108, 97, 119]⟩ : ByteArray), 0, 0, (([(⟨(⟨#[105, 110]⟩ : ByteArray), 5, true, 0, 9, (⟨0, 0⟩ : S32)⟩ : S83), (⟨(⟨#[111, 117, 116]⟩ : ByteArray), 5, false, 0, 0, (⟨0, 0⟩ : S32)⟩ : S83)] : List (S83))), ([] : List (S69)), (([(⟨(⟨#[97]⟩ : ByteArray), (⟨#[111, 117, 116]⟩ : ByteArray), ([] : List (S80)), (([(⟨1, ([] : List Int), 0, 0, (⟨#[105, 110]⟩ : ByteArray)⟩ : S80), (⟨0, ([] : List Int), 5, a0, (⟨#[]⟩ : ByteArray)⟩ : S80), (⟨10, (([0, 1] : List Int)), 0, 0, (⟨#[]⟩ : ByteArray)⟩ : S80)] : List (S80))), ([] : List (S58)), 0⟩ : S54)] : List (S54)))⟩ : S48)] : List (S48)))
set_option maxHeartbeats 8000000 in
set_option maxRecDepth 100000 in
theorem qDB.calls (a0 : Int) (r : List (S48)) (w : World) (h : qDB.f a0 = some r) :
  Calls Try.prog 24 #[.int .i64 a0] w fun e w' => ∃ v0_ : Value, e = .returned (v0_) ∧ Kd.N k48 48 w' w.heap.size (fun k_ => (w.heap.size ≤ k_)) v0_ r ∧ Below w.heap.size w w' := by
 have hu80 := Try.underlying80
 have hu83 := Try.underlying83
 have hu54 := Try.underlying54
 have hu48 := Try.underlying48
 have HB := qA0.mk (Below.refl w.heap.size w)
 have H : (some (([(⟨(⟨#[108, 97, 119]⟩ : ByteArray), 0, 0, (([(⟨(⟨#[105, 110]⟩ : ByteArray), 5, true, 0, 9, (⟨0, 0⟩ : S32)⟩ : S83), (⟨(⟨#[111, 117, 116]⟩ : ByteArray), 5, false, 0, 0, (⟨0, 0⟩ : S32)⟩ : S83)] : List (S83))), ([] : List (S69)), (([(⟨(⟨#[97]⟩ : ByteArray), (⟨#[111, 117, 116]⟩ : ByteArray), ([] : List (S80)), (([(⟨1, ([] : List Int), 0, 0, (⟨#[105, 110]⟩ : ByteArray)⟩ : S80), (⟨0, ([] : List Int), 5, a0, (⟨#[]⟩ : ByteArray)⟩ : S80), (⟨10, (([0, 1] : List Int)), 0, 0, (⟨#[]⟩ : ByteArray)⟩ : S80)] : List (S80))), ([] : List (S58)), 0⟩ : S54)] : List (S54)))⟩ : S48)] : List (S48)))) = some r := h
 clear h
 obtain ⟨y421, hy_⟩ : ∃ y_ : List Int, y_ = (([0, 1] : List Int)) := ⟨_, rfl⟩
 replace H : (some (([(⟨(⟨#[108, 97, 119]⟩ : ByteArray), 0, 0, (([(⟨(⟨#[105, 110]⟩ : ByteArray), 5, true, 0, 9, (⟨0, 0⟩ : S32)⟩ : S83), (⟨(⟨#[111, 117, 116]⟩ : ByteArray), 5, false, 0, 0, (⟨0, 0⟩ : S32)⟩ : S83)] : List (S83))), ([] : List (S69)), (([(⟨(⟨#[97]⟩ : ByteArray), (⟨#[111, 117, 116]⟩ : ByteArray), ([] : List (S80)), (([(⟨1, ([] : List Int), 0, 0, (⟨#[105, 110]⟩ : ByteArray)⟩ : S80), (⟨0, ([] : List Int), 5, a0, (⟨#[]⟩ : ByteArray)⟩ : S80), (⟨10, y421, 0, 0, (⟨#[]⟩ : ByteArray)⟩ : S80)] : List (S80))), ([] : List (S58)), 0⟩ : S54)] : List (S54)))⟩ : S48)] : List (S48)))) = some r := zr
 have Ny421 := qA0.mk hy_
 clear hy_
 obtain ⟨y424, hy_⟩ : ∃ y_ : List (S80), y_ = (([(⟨1, ([] : List Int), 0, 0, (⟨#[105, 110]⟩ : ByteArray)⟩ : S80), (⟨0, ([] : List Int), 5, a0, (⟨#[]⟩ : ByteArray)⟩ : S80), (⟨10, y421, 0, 0, (⟨#[]⟩ : ByteArray)⟩ : S80)] : List (S80))) := ⟨_, rfl⟩
 replace H : (some (([(⟨(⟨#[108, 97, 119]⟩ : ByteArray), 0, 0, (([(⟨(⟨#[105, 110]⟩ : ByteArray), 5, true, 0, 9, (⟨0, 0⟩ : S32)⟩ : S83), (⟨(⟨#[111, 117, 116]⟩ : ByteArray), 5, false, 0, 0, (⟨0, 0⟩ : S32)⟩ : S83)] : List (S83))), ([] : List (S69)), (([(⟨(⟨#[97]⟩ : ByteArray), (⟨#[111, 117, 116]⟩ : ByteArray), ([] : List (S80)), y424, ([] : List (S58)), 0⟩ : S54)] : List (S54)))⟩ : S48)] : List (S48)))) = some r := zr
 have Ny424 := qA0.mk hy_
 clear hy_
 obtain ⟨y427, hy_⟩ : ∃ y_ : List (S83), y_ = (([(⟨(⟨#[105, 110]⟩ : ByteArray), 5, true, 0, 9, (⟨0, 0⟩ : S32)⟩ : S83), (⟨(⟨#[111, 117, 116]⟩ : ByteArray), 5, false, 0, 0, (⟨0, 0⟩ : S32)⟩ : S83)] : List (S83))) := ⟨_, rfl⟩
 replace H : (some (([(⟨(⟨#[108, 97, 119]⟩ : ByteArray), 0, 0, y427, ([] : List (S69)), (([(⟨(⟨#[97]⟩ : ByteArray), (⟨#[111, 117, 116]⟩ : ByteArray), ([] : List (S80)), y424, ([] : List (S58)), 0⟩ : S54)] : List (S54)))⟩ : S48)] : List (S48)))) = some r := zr
 have Ny427 := qA0.mk hy_
 clear hy_
 obtain ⟨y430, hy_⟩ : ∃ y_ : List (S54), y_ = (([(⟨(⟨#[97]⟩ : ByteArray), (⟨#[111, 117, 116]⟩ : ByteArray), ([] : List (S80)), y424, ([] : List (S58)), 0⟩ : S54)] : List (S54))) := ⟨_, rfl⟩
 replace H : (some (([(⟨(⟨#[108, 97, 119]⟩ : ByteArray), 0, 0, y427, ([] : List (S69)), y430⟩ : S48)] : List (S48)))) = some r := zr
 have Ny430 := qA0.mk hy_
 clear hy_
 obtain ⟨y433, hy_⟩ : ∃ y_ : List (S48), y_ = (([(⟨(⟨#[108, 97, 119]⟩ : ByteArray), 0, 0, y427, ([] : List (S69)), y430⟩ : S48)] : List (S48))) := ⟨_, rfl⟩
 replace H : (some y433) = some r := zr
 have Ny433 := qA0.mk hy_
 clear hy_
 obtain rfl := Option.some.inj H
 go_enter Try.func24, Try.ntmps24
 go_wp2_with (first | ((with_reducible refine qAC (N := 7) rfl ?_); refine Kd.qF5 (Kd.int .i64) _ 3 ?hg (N := 7) ?hd (xs := ([0, 1] : List Int)) (inner := [.int .i64 0, .int .i64 1]) (ok := fun _ => True) (okp := fun _ => True) ?hr ?hp (fun _ hk => hk) trivial (Below.refl _ _) (Nat.le_refl _) (by simp) ?_; (case hd => rfl); (case hg => rfl); (case hr => first | (go_simp; done) | (go_simp; rfl)); (case hp => exact (Reps.one (show Kd.M (Kd.int .i64) _ _ _ 0 [.int .i64 0] from rfl) (Reps.one (show Kd.M (Kd.int .i64) _ _ _ 1 [.int .i64 1] from rfl) (Reps.none _ _)))); intro v422 w2 ho3 hb hg_ hnew_; clear hg_ hnew_; (first | rw [← Ny421.out] at ho3 | (simp only [Int.reduceToNat] at ho3; rw [← Ny421.out] at ho3)); have HO423 := qA0.mk (Kd.qC9 (Kd.R_newM (M := fun k_ => (w.heap.size ≤ k_)) ho3 (qAM zb) (fun k_ h_ => h_)) (qAM zb)); replace HB := qA0.mk (qA1 zb hb); clear hb ho3; obtain ⟨Ao4, co4, eo4⟩ := Kd.qBW HO423.out; subst eo4) | ((with_reducible refine qAC (N := 9) rfl ?_); refine Kd.N_lit k80 _ 80 ?hg (N' := 9) ?hd (xs := ([(⟨1, ([] : List Int), 0, 0, (⟨#[105, 110]⟩ : ByteArray)⟩ : S80), (⟨0, ([] : List Int), 5, a0, (⟨#[]⟩ : ByteArray)⟩ : S80), (⟨10, y421, 0, 0, (⟨#[]⟩ : ByteArray)⟩ : S80)] : List (S80))) (inner := [.int .i64 1, .slice none 0 0, .int .i64 0, .int .i64 0, .string (⟨#[105, 110]⟩ : ByteArray), .int .i64 0, .slice none 0 0, .int .i64 5, .int .i64 a0, .string (⟨#[]⟩ : ByteArray), .int .i64 10, .slice Ao4 y421.length co4, .int .i64 0, .int .i64 0, .string (⟨#[]⟩ : ByteArray)]) (ok := (fun k_ => (w.heap.size ≤ k_))) (okp := (fun k_ => (w.heap.size ≤ k_))) ?hr ?hp (fun _ hk => hk) ((show ∀ k_, w2.heap.size ≤ k_ → (fun k_ => (w.heap.size ≤ k_)) k_ from fun k_ hk => (Nat.le_trans (qAM zb) hk)) _ (Nat.le_refl _)) (Below.refl _ _) (Nat.le_refl _) (by simp) ?_; (case hd => rfl); (case hg => rfl); (case hr => first | (go_simp; done) | (go_simp; rfl)); (case hp => exact (Reps.c5 (show Kd.FK k80 _ _ (⟨1, ([] : List Int), 0, 0, (⟨#[105, 110]⟩ : ByteArray)⟩ : S80) [.int .i64 1, .slice none 0 0, .int .i64 0, .int .i64 0, .string (⟨#[105, 110]⟩ : ByteArray)] from (k80_mkF _ _ (⟨1, ([] : List Int), 0, 0, (⟨#[105, 110]⟩ : ByteArray)⟩ : S80) (Nat.le_refl _) (Kd.F_nil _ _ _))) (Reps.c5 (show Kd.FK k80 _ _ (⟨0, ([] : List Int), 5, a0, (⟨#[]⟩ : ByteArray)⟩ : S80) [.int .i64 0, .slice none 0 0, .int .i64 5, .int .i64 a0, .string (⟨#[]⟩ : ByteArray)] from (k80_mkF _ _ (⟨0, ([] : List Int), 5, a0, (⟨#[]⟩ : ByteArray)⟩ : S80) (Nat.le_refl _) (Kd.F_nil _ _ _))) (Reps.c5 (show Kd.FK k80 _ _ (⟨10, y421, 0, 0, (⟨#[]⟩ : ByteArray)⟩ : S80) [.int .i64 10, .slice Ao4 y421.length co4, .int .i64 0, .int .i64 0, .string (⟨#[]⟩ : ByteArray)] from (k80_mkF _ _ (⟨10, y421, 0, 0, (⟨#[]⟩ : ByteArray)⟩ : S80) (Kd.qAU (Kd.qB6 (ok' := (fun k_ => (w.heap.size ≤ k_))) (HO423.out) (fun k_ hk => hk.1))).2.1 (Kd.R_F (Kd.qB6 (ok' := (fun k_ => (w.heap.size ≤ k_))) (HO423.out) (fun k_ hk => hk.1))))) (Reps.none _ _))))); intro v425 w5 ho6 hb hg_ hnew_; clear hg_ hnew_; (first | rw [← Ny424.out] at ho6 | (simp only [Int.reduceToNat] at ho6; rw [← Ny424.out] at ho6)); have HO426 := qA0.mk (Kd.N_lower ho6 (qAM zb)); replace HB := qA0.mk (qA1 zb hb); clear HO423; clear hb ho6) | ((with_reducible refine qAC (N := 12) rfl ?_); refine Kd.qF5 k83 _ 83 ?hg (N := 12) ?hd (xs := ([(⟨(⟨#[105, 110]⟩ : ByteArray), 5, true, 0, 9, (⟨0, 0⟩ : S32)⟩ : S83), (⟨(⟨#[111, 117, 116]⟩ : ByteArray), 5, false, 0, 0, (⟨0, 0⟩ : S32)⟩ : S83)] : List (S83))) (inner := [.string (⟨#[105, 110]⟩ : ByteArray), .int .i64 5, .bool true, .int .i64 0, .int .i64 9, .int .i64 0, .int .i64 0, .string (⟨#[111, 117, 116]⟩ : ByteArray), .int .i64 5, .bool false, .int .i64 0, .int .i64 0, .int .i64 0, .int .i64 0]) (ok := fun _ => True) (okp := fun _ => True) ?hr ?hp (fun _ hk => hk) trivial (Below.refl _ _) (Nat.le_refl _) (by simp) ?_; (case hd => rfl); (case hg => rfl); (case hr => first | (go_simp; done) | (go_simp; rfl)); (case hp => exact (Reps.c7 (show Kd.M k83 _ _ _ (⟨(⟨#[105, 110]⟩ : ByteArray), 5, true, 0, 9, (⟨0, 0⟩ : S32)⟩ : S83) [.string (⟨#[105, 110]⟩ : ByteArray), .int .i64 5, .bool true, .int .i64 0, .int .i64 9, .int .i64 0, .int .i64 0] from (k83_mkM _ _ _ (⟨(⟨#[105, 110]⟩ : ByteArray), 5, true, 0, 9, (⟨0, 0⟩ : S32)⟩ : S83) )) (Reps.c7 (show Kd.M k83 _ _ _ (⟨(⟨#[111, 117, 116]⟩ : ByteArray), 5, false, 0, 0, (⟨0, 0⟩ : S32)⟩ : S83) [.string (⟨#[111, 117, 116]⟩ : ByteArray), .int .i64 5, .bool false, .int .i64 0, .int .i64 0, .int .i64 0, .int .i64 0] from (k83_mkM _ _ _ (⟨(⟨#[111, 117, 116]⟩ : ByteArray), 5, false, 0, 0, (⟨0, 0⟩ : S32)⟩ : S83) )) (Reps.none _ _)))); intro v428 w7 ho8 hb hg_ hnew_; clear hg_ hnew_; (first | rw [← Ny427.out] at ho8 | (simp only [Int.reduceToNat] at ho8; rw [← Ny427.out] at ho8)); have HO429 := qA0.mk (Kd.qC9 (Kd.R_newM (M := fun k_ => (w.heap.size ≤ k_)) ho8 (qAM zb) (fun k_ h_ => h_)) (qAM zb)); replace HO426 := qA0.mk (Kd.N_elder' (by (with_reducible repeat (first | apply Kd.N_alloc | apply Kd.N_drewN | apply Kd.N_drew)); exact HO426.out) (Kd.qEO ho8) hb); replace HB := qA0.mk (qA1 zb hb); clear hb ho8; obtain ⟨Ao9, co9, eo9⟩ := Kd.N_slice HO426.out; subst eo9) | ((with_reducible refine qAC (N := 15) rfl ?_); refine Kd.N_lit k54 _ 54 ?hg (N' := 15) ?hd (xs := ([(⟨(⟨#[97]⟩ : ByteArray), (⟨#[111, 117, 116]⟩ : ByteArray), ([] : List (S80)), y424, ([] : List (S58)), 0⟩ : S54)] : List (S54))) (inner := [.string (⟨#[97]⟩ : ByteArray), .string (⟨#[111, 117, 116]⟩ : ByteArray), .slice none 0 0, .slice Ao9 y424.length co9, .slice none 0 0, .int .i64 0]) (ok := (fun k_ => (w.heap.size ≤ k_) ∧ some k_ ≠ (v428 : Value).ownBlock)) (okp := (fun k_ => (w.heap.size ≤ k_) ∧ some k_ ≠ (v428 : Value).ownBlock)) ?hr ?hp (fun _ hk => hk) ((show ∀ k_, w7.heap.size ≤ k_ → (fun k_ => (w.heap.size ≤ k_) ∧ some k_ ≠ (v428 : Value).ownBlock) k_ from fun k_ hk => ⟨(Nat.le_trans (qAM zb) hk), Kd.fresh' (Kd.R_lt (by (with_reducible repeat (first | apply Kd.qDG | apply Kd.qDF | apply Kd.qDJ)); exact HO429.out)) k_ hk⟩) _ (Nat.le_refl _)) (Below.refl _ _) (Nat.le_refl _) (by simp) ?_; (case hd => rfl); (case hg => rfl); (case hr => first | (go_simp; done) | (go_simp; rfl)); (case hp => exact (Reps.c6 (show Kd.FK k54 _ _ (⟨(⟨#[97]⟩ : ByteArray), (⟨#[111, 117, 116]⟩ : ByteArray), ([] : List (S80)), y424, ([] : List (S58)), 0⟩ : S54) [.string (⟨#[97]⟩ : ByteArray), .string (⟨#[111, 117, 116]⟩ : ByteArray), .slice none 0 0, .slice Ao9 y424.length co9, .slice none 0 0, .int .i64 0] from (k54_mkF _ _ (⟨(⟨#[97]⟩ : ByteArray), (⟨#[111, 117, 116]⟩ : ByteArray), ([] : List (S80)), y424, ([] : List (S58)), 0⟩ : S54) (Nat.le_refl _) (Kd.F_nil _ _ _) (Kd.qFC (Kd.N_mono (ok' := (fun k_ => (w.heap.size ≤ k_) ∧ some k_ ≠ (v428 : Value).ownBlock)) (HO426.out) (fun k_ hk => ⟨hk.1, hk.2⟩))).2.1 (Kd.N_F (Kd.N_mono (ok' := (fun k_ => (w.heap.size ≤ k_) ∧ some k_ ≠ (v428 : Value).ownBlock)) (HO426.out) (fun k_ hk => ⟨hk.1, hk.2⟩))) (Nat.le_refl _) (Kd.F_nil _ _ _))) (Reps.none _ _))); intro v431 w10 ho11 hb hg_ hnew_; clear hg_ hnew_; (first | rw [← Ny430.out] at ho11 | (simp only [Int.reduceToNat] at ho11; rw [← Ny430.out] at ho11)); have HO432 := qA0.mk (Kd.N_lower ho11 (qAM zb)); replace HO429 := qA0.mk (Kd.qBC (by (with_reducible repeat (first | apply Kd.qDG | apply Kd.qDF | apply Kd.qDJ)); exact HO429.out) hb); replace HB := qA0.mk (qA1 zb hb); clear HO426; clear hb ho11; obtain ⟨Ao12, co12, eo12⟩ := Kd.N_slice HO432.out; subst eo12; obtain ⟨Ao13, co13, eo13⟩ := Kd.qBW HO429.out; subst eo13) | ((with_reducible refine qAC (N := 17) rfl ?_); refine Kd.N_lit k48 _ 48 ?hg (N' := 17) ?hd (xs := ([(⟨(⟨#[108, 97, 119]⟩ : ByteArray), 0, 0, y427, ([] : List (S69)), y430⟩ : S48)] : List (S48))) (inner := [.string (⟨#[108, 97, 119]⟩ : ByteArray), .int .i64 0, .int .i64 0, .slice Ao13 y427.length co13, .slice none 0 0, .slice Ao12 y430.length co12]) (ok := (fun k_ => (w.heap.size ≤ k_))) (okp := (fun k_ => (w.heap.size ≤ k_))) ?hr ?hp (fun _ hk => hk) ((show ∀ k_, w10.heap.size ≤ k_ → (fun k_ => (w.heap.size ≤ k_)) k_ from fun k_ hk => (Nat.le_trans (qAM zb) hk)) _ (Nat.le_refl _)) (Below.refl _ _) (Nat.le_refl _) (by simp) ?_; (case hd => rfl); (case hg => rfl); (case hr => first | (go_simp; done) | (go_simp; rfl)); (case hp => exact (Reps.c6 (show Kd.FK k48 _ _ (⟨(⟨#[108, 97, 119]⟩ : ByteArray), 0, 0, y427, ([] : List (S69)), y430⟩ : S48) [.string (⟨#[108, 97, 119]⟩ : ByteArray), .int .i64 0, .int .i64 0, .slice Ao13 y427.length co13, .slice none 0 0, .slice Ao12 y430.length co12] from (k48_mkF _ _ (⟨(⟨#[108, 97, 119]⟩ : ByteArray), 0, 0, y427, ([] : List (S69)), y430⟩ : S48) (Kd.qAU (Kd.qB6 (ok' := (fun k_ => (w.heap.size ≤ k_))) (HO429.out) (fun k_ hk => hk.1))).2.1 (Kd.R_F (Kd.qB6 (ok' := (fun k_ => (w.heap.size ≤ k_))) (HO429.out) (fun k_ hk => hk.1))) (Nat.le_refl _) (Kd.F_nil _ _ _) (Kd.qFC (Kd.N_mono (ok' := (fun k_ => (w.heap.size ≤ k_))) (HO432.out) (fun k_ hk => hk.1))).2.1 (Kd.N_F (Kd.N_mono (ok' := (fun k_ => (w.heap.size ≤ k_))) (HO432.out) (fun k_ hk => hk.1))))) (Reps.none _ _))); intro v434 w14 ho15 hb hg_ hnew_; clear hg_ hnew_; (first | rw [← Ny433.out] at ho15 | (simp only [Int.reduceToNat] at ho15; rw [← Ny433.out] at ho15)); have HO435 := qA0.mk (Kd.N_lower ho15 (qAM zb)); replace HB := qA0.mk (qA1 zb hb); clear HO429; clear HO432; clear hb ho15))
 go_ret
 exact ⟨_, zf, by (with_reducible repeat (first | apply Kd.N_alloc | apply Kd.N_drewN | apply Kd.N_drew)); exact HO435.out, zb⟩
end
end Go.Proofs.Ytnliaialemfcaaa.PRateFinds
end
section
namespace Go.Proofs.Ytnliaialemfcaaa.PRateFinds
noncomputable section
open Go.RowKit Go.Proofs.YtnliaialemfcaaaW.PrintWords Go.Proofs.YtnliaialemfcaaaW.PrintLast Go.Proofs.YtnliaialemfcaaaW.PrintMore
def qCO.f (k : Nat)  : Option (Bool) := (qDB.f 5).bind fun t436 => ((qB1.f k t436).bind fun bt439 => (if bt439.2 = 0 then ((qC1.f k bt439.1 (([(⟨(⟨#[108, 97, 119]⟩ : ByteArray), (⟨#[97]⟩ : ByteArray), 1, 1⟩ : S25)] : List (S25)))).bind fun t446 => (some t446)) else (some false)))
set_option maxHeartbeats 8000000 in
set_option maxRecDepth 100000 in
theorem qCO.calls (k : Nat)  (r : Bool) (w : World) (h : qCO.f k  = some r) :
  Calls Try.prog 8 #[] w fun e w' => e = .returned (.bool r) ∧ Below w.heap.size w w' := by
 have hu25 := Try.underlying25
 have HB := qA0.mk (Below.refl w.heap.size w)
 have H : ((qDB.f 5).bind fun t436 => ((qB1.f k t436).bind fun bt439 => (if bt439.2 = 0 then ((qC1.f k bt439.1 (([(⟨(⟨#[108, 97, 119]⟩ : ByteArray), (⟨#[97]⟩ : ByteArray), 1, 1⟩ : S25)] : List (S25)))).bind fun t446 => (some t446)) else (some false)))) = some r := h
 clear h
 replace H := Option.bind_eq_some_iff.mp H
 obtain ⟨t436, A10, H⟩ := H
 have A1 := qA0.mk A10
 clear A10
 replace H := Option.bind_eq_some_iff.mp H
 obtain ⟨⟨t439, t440⟩, A20, H⟩ := H
 replace H : (if t440 = 0 then ((qC1.f k t439 (([(⟨(⟨#[108, 97, 119]⟩ : ByteArray), (⟨#[97]⟩ : ByteArray), 1, 1⟩ : S25)] : List (S25)))).bind fun t446 => (some t446)) else (some false)) = some r := H
 have A2 := qA0.mk A20
 clear A20
 by_cases c3 : t440 = 0
 ·rw [if_pos c3] at H
  have ⟨c3b0, c3b1⟩ := ze c3
  clear c3
  obtain ⟨y443, hy_⟩ : ∃ y_ : List (S25), y_ = (([(⟨(⟨#[108, 97, 119]⟩ : ByteArray), (⟨#[97]⟩ : ByteArray), 1, 1⟩ : S25)] : List (S25))) := ⟨_, rfl⟩
  replace H : ((qC1.f k t439 y443).bind fun t446 => (some t446)) = some r := zr
  have Ny443 := qA0.mk hy_
  clear hy_
  replace H := Option.bind_eq_some_iff.mp H
  obtain ⟨t446, A40, H⟩ := H
  have A4 := qA0.mk A40
  clear A40
  obtain rfl := Option.some.inj H
  go_enter Try.func8, Try.ntmps8
  go_wp2_with (first | ((with_reducible refine qA9 (f := 24) rfl ?_); refine qC2 (some 4) Try.func24 #[.int .i64 5] ?_; (with_reducible refine (qDB.calls 5 t436 _ A1.out).mono ?_); rintro e w5 ⟨v437, rfl, ho0, hb⟩; refine ⟨_, rfl, ?_⟩; have HO438 := qA0.mk (Kd.N_lower (Kd.N_mono (ok' := fun k_ => True) ho0 (fun k_ hk_ => trivial)) (qAM zb)); replace HB := qA0.mk (qA1 zb hb); (try clear hb); (try clear hb2); (try clear hk); (try clear hi); (try clear ho0); obtain ⟨Ao6, co6, eo6⟩ := Kd.N_slice HO438.out; subst eo6) | ((with_reducible refine qA9 (f := 5) rfl ?_); refine qC2 (some 5) Try.func5 #[.slice Ao6 t436.length co6] ?_; (with_reducible refine (qB1.calls k _ _ t436 t439 t440 _ ?side1 ?side2 A2.out).mono ?_); (case side1 => repeat (first | exact (Kd.qFC HO438.out).2.2 | refine sC ?_)); (case side2 => exact (Kd.qFC HO438.out).2.1); rintro e w7 ⟨v441, rfl, ho0, hb⟩; refine ⟨_, rfl, ?_⟩; have HO442 := qA0.mk (Kd.qC9 ho0 (qAM zb)); replace HO438 := qA0.mk (Kd.N_elder' (by (with_reducible repeat (first | apply Kd.N_alloc | apply Kd.N_drewN | apply Kd.N_drew)); exact HO438.out) (Kd.qEO ho0) hb); replace HB := qA0.mk (qA1 zb hb); (try clear hb); (try clear hb2); (try clear hk); (try clear hi); (try clear ho0)) | ((with_reducible refine qAC (N := 13) rfl ?_); (try (refine qC5 (by rfl) ?_; dsimp only)); refine Kd.qF5 k25 _ 25 ?hg (N := 13) ?hd (xs := ([(⟨(⟨#[108, 97, 119]⟩ : ByteArray), (⟨#[97]⟩ : ByteArray), 1, 1⟩ : S25)] : List (S25))) (inner := [.string (⟨#[108, 97, 119]⟩ : ByteArray), .string (⟨#[97]⟩ : ByteArray), .int .i64 1, .int .i64 1]) (ok := fun _ => True) (okp := fun _ => True) ?hr ?hp (fun _ hk => hk) trivial (Below.refl _ _) (Nat.le_refl _) (by simp) ?_; (case hd => rfl); (case hg => rfl); (case hr => first | (go_simp; done) | (go_simp; rfl)); (case hp => exact (Reps.c4 (show Kd.M k25 _ _ _ (⟨(⟨#[108, 97, 119]⟩ : ByteArray), (⟨#[97]⟩ : ByteArray), 1, 1⟩ : S25) [.string (⟨#[108, 97, 119]⟩ : ByteArray), .string (⟨#[97]⟩ : ByteArray), .int .i64 1, .int .i64 1] from (k25_mkM _ _ _ (⟨(⟨#[108, 97, 119]⟩ : ByteArray), (⟨#[97]⟩ : ByteArray), 1, 1⟩ : S25) )) (Reps.none _ _))); intro v444 w8 ho9 hb hg_ hnew_; clear hg_ hnew_; (first | rw [← Ny443.out] at ho9 | (simp only [Int.reduceToNat] at ho9; rw [← Ny443.out] at ho9)); have HO445 := qA0.mk (Kd.qC9 (Kd.R_new' ho9 (Kd.R_lt (by (with_reducible repeat (first | apply Kd.qDG | apply Kd.qDF | apply Kd.qDJ)); exact HO442.out))) (qAM zb)); replace HO438 := qA0.mk (Kd.N_elder' (by (with_reducible repeat (first | apply Kd.N_alloc | apply Kd.N_drewN | apply Kd.N_drew)); exact HO438.out) (Kd.qEO ho9) hb); replace HO442 := qA0.mk (Kd.qFA (by (with_reducible repeat (first | apply Kd.qDG | apply Kd.qDF | apply Kd.qDJ)); exact HO442.out) (Kd.qEO ho9) hb); replace HB := qA0.mk (qA1 zb hb); clear hb ho9; obtain ⟨Ao10, co10, eo10⟩ := Kd.qBW HO442.out; subst eo10; obtain ⟨Ao11, co11, eo11⟩ := Kd.qBW HO445.out; subst eo11) | (go_at_call 9; (with_reducible refine (qC1.calls k _ _ t439 _ _ y443 t446 _ ?side1 ?side2 ?side3 ?side4 A4.out).mono ?_); (case side1 => repeat (first | exact (Kd.qAU HO442.out).2.2 | refine sC ?_)); (case side2 => exact (Kd.qAU HO442.out).2.1); (case side3 => repeat (first | exact (Kd.qAU HO445.out).2.2 | refine sC ?_)); (case side4 => exact (Kd.qAU HO445.out).2.1); rintro e w' ⟨rfl, ⟨nd, rfl⟩⟩))
  go_ret
  exact ⟨zf, zb⟩
 ·rw [if_neg c3] at H
  have ⟨c3b0, c3b1⟩ := zn c3
  obtain rfl := Option.some.inj H
  go_enter Try.func8, Try.ntmps8
  go_wp2_with (first | ((with_reducible refine qA9 (f := 24) rfl ?_); refine qC2 (some 4) Try.func24 #[.int .i64 5] ?_; (with_reducible refine (qDB.calls 5 t436 _ A1.out).mono ?_); rintro e w12 ⟨v437, rfl, ho0, hb⟩; refine ⟨_, rfl, ?_⟩; have HO438 := qA0.mk (Kd.N_lower (Kd.N_mono (ok' := fun k_ => True) ho0 (fun k_ hk_ => trivial)) (qAM zb)); replace HB := qA0.mk (qA1 zb hb); (try clear hb); (try clear hb2); (try clear hk); (try clear hi); (try clear ho0); obtain ⟨Ao13, co13, eo13⟩ := Kd.N_slice HO438.out; subst eo13) | ((with_reducible refine qA9 (f := 5) rfl ?_); refine qC2 (some 5) Try.func5 #[.slice Ao13 t436.length co13] ?_; (with_reducible refine (qB1.calls k _ _ t436 t439 t440 _ ?side1 ?side2 A2.out).mono ?_); (case side1 => repeat (first | exact (Kd.qFC HO438.out).2.2 | refine sC ?_)); (case side2 => exact (Kd.qFC HO438.out).2.1); rintro e w14 ⟨v441, rfl, ho0, hb⟩; refine ⟨_, rfl, ?_⟩; have HO442 := qA0.mk (Kd.qC9 ho0 (qAM zb)); replace HO438 := qA0.mk (Kd.N_elder' (by (with_reducible repeat (first | apply Kd.N_alloc | apply Kd.N_drewN | apply Kd.N_drew)); exact HO438.out) (Kd.qEO ho0) hb); replace HB := qA0.mk (qA1 zb hb); (try clear hb); (try clear hb2); (try clear hk); (try clear hi); (try clear ho0)))
  go_ret
  exact ⟨zf, zb⟩
end
end Go.Proofs.Ytnliaialemfcaaa.PRateFinds
end
section
namespace Go.Inv
variable {P : Program} {md : Region.Mode} {ops : Array Oper} {Q : Exit → Act → World → Prop}
theorem ready_iff {l : Array Bool} {i : Nat} : i ∈ Region.ready md ops l ↔ i < ops.size ∧ l.getD i true = false ∧ ((ops[i]?).map (·.after.all fun e => !Region.binds md e || l.getD e.on false)).getD false = true := by
 unfold Region.ready
 rw [List.mem_filter, List.mem_range, Bool.and_eq_true, Bool.not_eq_true']
theorem qEW {l : Array Bool} {i k : Nat} (hi : i < l.size) : (l.setIfInBounds i true).getD k false = if k = i then true else l.getD k false := by
 simp only [Array.getD_eq_getD_getElem?, Array.getElem?_setIfInBounds]
 by_cases h : k = i
 ·subst h
  simp [hi]
 ·rw [if_neg h, if_neg (fun e => h e.symm)]
theorem bo {l : Array Bool} {i : Nat} (hi : i < l.size) (k : Nat) (hk : ¬ k = i := by decide) : (l.setIfInBounds i true).getD k false = l.getD k false := by rw [qEW hi, if_neg hk]
theorem qBF {l : Array Bool} {i k : Nat} (hi : i < l.size) (h : l.getD k false = true) : (l.setIfInBounds i true).getD k false = true := by
 rw [qEW hi]
 split
 ·rfl
 ·exact h
theorem qD4 {l : Array Bool} {i : Nat} (hi : i < l.size) (h : l.getD i true = false) : l.getD i false = false := by
 simp only [Array.getD_eq_getD_getElem?, Array.getElem?_eq_getElem hi, Option.getD_some] at h ⊢
 exact h
theorem wpAny_inv {I : Array Bool → Act → World → Prop}
  (hstep : ∀ l a w i, i ∈ Region.ready md ops l → l.size = ops.size → I l a w → wpOp P ops Q i (I (l.setIfInBounds i true)) a w)
  (hend : ∀ l a w, Region.ready md ops l = [] → l.size = ops.size → I l a w → Q .normal a w) :
  ∀ (fuel : Nat) (l : Array Bool) (a : Act) (w : World), l.size = ops.size → l.toList.count false ≤ fuel → I l a w → wpAny P md ops Q fuel l a w
 | 0, l, a, w, hs, hc, hI => by
  have hn : Region.ready md ops l = [] := by
   rw [List.eq_nil_iff_forall_not_mem]
   intro i hi
   obtain ⟨h1, h2, _⟩ := ready_iff.1 hi
   have h3 := qD4 (hs ▸ h1) h2
   have hm : false ∈ l.toList := by
    have h4 : i < l.size := hs ▸ h1
    simp only [Array.getD_eq_getD_getElem?, Array.getElem?_eq_getElem h4, Option.getD_some] at h3
    rw [← h3]
    exact Array.mem_toList_iff.2 (Array.getElem_mem h4)
   exact absurd (List.count_pos_iff.2 hm) (by omega)
  exact ⟨hn, hend l a w hn hs hI⟩
 | fuel + 1, l, a, w, hs, hc, hI => by
  refine ⟨fun hn => hend l a w hn hs hI, fun i hi => wpOp_mono (fun a' w' h => ?_) (hstep l a w i hi hs hI)⟩
  obtain ⟨h1, h2, _⟩ := ready_iff.1 hi
  have h4 : i < l.size := hs ▸ h1
  have h3 := qD4 h4 h2
  refine wpAny_inv hstep hend fuel _ a' w' (by simpa using hs) ?_ h
  have h5 : l.toList[i]'(by simpa using h4) = false := by
   simp only [Array.getD_eq_getD_getElem?, Array.getElem?_eq_getElem h4, Option.getD_some] at h3
   simpa using h3
  have h6 := List.count_pos_iff.2 (h5 ▸ List.getElem_mem (l := l.toList) (n := i) (by simpa using h4))
  rw [Array.toList_setIfInBounds, List.count_set (by simpa using h4), h5]
  change List.count false l.toList - 1 + 0 ≤ fuel
  omega
theorem qCP {l : Array Bool} (hn : Region.ready md ops l = []) (hs : l.size = ops.size) {i : Nat} (hi : i < ops.size) (hd : ((ops[i]?).map (·.after.all fun e => !Region.binds md e || l.getD e.on false)).getD false = true) : l.getD i false = true := by
 cases hb : l.getD i false with
 | true => rfl
 | false =>
  have h1 : l.getD i true = false := by
   have h4 : i < l.size := hs ▸ hi
   simp only [Array.getD_eq_getD_getElem?, Array.getElem?_eq_getElem h4, Option.getD_some] at hb ⊢
   exact hb
  have h2 := ready_iff.2 ⟨hi, h1, hd⟩
  rw [hn] at h2
  cases h2
theorem qDW {i : Nat} {o : Oper} {K : Act → World → Prop} {a : Act} {w : World} (ho : ops[i]? = some o) (hg : o.guard = none) (h : o.wp P a w K Q) : wpOp P ops Q i K a w := by
 unfold wpOp
 simp only [ho, Region.wanted, hg, if_true]
 exact .inl h
theorem qEB {o : Oper} {K : Act → World → Prop} {a : Act} {w w' : World} {v : Value} (hr : (execOp a.eval o).run P w = .ok (.value v) w') (h : K (a.put o.dst v) w') : o.wp P a w K Q := by
 unfold Oper.wp
 rw [hr]
 exact h
theorem skip_step {o : Oper} {K : Act → World → Prop} {a : Act} {w w' : World} (hr : (execOp a.eval o).run P w = .ok .skip w') (h : K (a.put o.dst undef) w') : o.wp P a w K Q := by
 unfold Oper.wp
 rw [hr]
 exact h
theorem put_same {a : Act} {d : Nat} {v : Value} (h : d < a.tmps.size) : (a.put (some d) v).eval (.tmp d) = v := by
 simp [Act.put, Act.eval, Array.getD_eq_getD_getElem?, h]
theorem qB7 {a : Act} {d d' : Nat} {v : Value} (h : d ≠ d') : (a.put (some d) v).eval (.tmp d') = a.eval (.tmp d') := Act.eval_put fun e he hx => by
 injection he with he
 injection hx with hx
 exact h (he.trans hx.symm)
def Slot (k d : Nat) (v : Value) (l : Array Bool) (a : Act) : Prop := l.getD k false = true → a.eval (.tmp d) = v
theorem Slot.same {k d : Nat} {v : Value} {l : Array Bool} {a : Act} (h : d < a.tmps.size) : Slot k d v l (a.put (some d) v) := fun _ => put_same h
theorem Slot.other {i k d d' : Nat} {u v : Value} {l : Array Bool} {a : Act} (h : Slot k d v l a) (hi : i < l.size) (hk : k ≠ i) (hd : d' ≠ d) : Slot k d v (l.setIfInBounds i true) (a.put (some d') u) := fun hb => by
 rw [qEW hi, if_neg hk] at hb
 rw [qB7 hd]
 exact h hb
theorem Slot.still {i k d : Nat} {u v : Value} {l : Array Bool} {a : Act} (h : Slot k d v l a) (hi : i < l.size) (hk : k ≠ i) : Slot k d v (l.setIfInBounds i true) (a.put none u) := fun hb => by
 rw [qEW hi, if_neg hk] at hb
 exact h hb
end Go.Inv
end
section
namespace Go.Proofs.Ytnliaialemfcaaa.PRateFinds
noncomputable section
open Go.RowKit Go.Proofs.YtnliaialemfcaaaW.PrintWords Go.Proofs.YtnliaialemfcaaaW.PrintLast Go.Proofs.YtnliaialemfcaaaW.PrintMore
theorem info25x : (Try.prog.info? 25).map (fun i => (i.zero, i.size, i.bytes)) = some (some (.agg #[.string ⟨#[]⟩, .string ⟨#[]⟩, .int .i64 0, .int .i64 0]), 4, 48) := by kernel_rfl
theorem info32x : (Try.prog.info? 32).map (fun i => (i.zero, i.size, i.bytes)) = some (some (.agg #[.int .i64 0, .int .i64 0]), 2, 16) := by kernel_rfl
def enc25 (x : S25) : List Value := [.string x.f0, .string x.f1, .int .i64 x.f2, .int .i64 x.f3]
def enc32 (x : S32) : List Value := [.int .i64 x.f0, .int .i64 x.f1]
theorem app25 (W : World) (base : Nat) (v : Value) (R : List S25) (HO : W.ownsRow base 25 4 v R.length (R.flatMap enc25)) (g0 : Nat) (x : S25) (hblk : W.heap[g0]? = some (.cells #[.string x.f0, .string x.f1, .int .i64 x.f2, .int .i64 x.f3] 25 (0, 0))) (hbase : base ≤ W.heap.size) (hl : (R.length + 1) * 48 ≤ 140737488355328) :
  ∃ v1 w1, (Builtin.append_ #[28, 28] 28 #[v, .slice (some ⟨g0, 0, none⟩) 1 1]).run Try.prog W = .ok v1 w1 ∧ w1.ownsRow base 25 4 v1 (R ++ [x]).length ((R ++ [x]).flatMap enc25) ∧ W.grownBy w1 v.ownBlock ∧ (v1.ownBlock = v.ownBlock ∨ v1.ownBlock = some W.heap.size) := by
 obtain ⟨i0, hi, hz0, hz1, hz2⟩ := info_parts info25x
 obtain ⟨v1, w1, hr, h2, h3, _, h5⟩ := run_append_own_at (P := Try.prog) W base 28 28 25 i0 (.agg #[.string ⟨#[]⟩, .string ⟨#[]⟩, .int .i64 0, .int .i64 0]) 4 48 Try.underlying28 hi hz0 hz1 hz2 rfl (by decide) v R.length (R.flatMap enc25) HO ⟨g0, 0, none⟩ 1 1 (enc25 x) rfl (World.news_of_block hblk)
  (fun q hq => by simp [enc25] at hq; rcases hq with rfl | rfl | rfl | rfl <;> rfl) (by simp only [maxLen]; omega) hl hbase
 exact ⟨v1, w1, hr, by rw [List.flatMap_append, List.length_append]; simpa using h2, h3, h5⟩
theorem app32 (W : World) (base : Nat) (v : Value) (R : List S32) (HO : W.ownsRow base 32 2 v R.length (R.flatMap enc32)) (g0 : Nat) (x : S32) (hblk : W.heap[g0]? = some (.cells #[.int .i64 x.f0, .int .i64 x.f1] 32 (0, 0))) (hbase : base ≤ W.heap.size) (hl : (R.length + 1) * 16 ≤ 140737488355328) :
  ∃ v1 w1, (Builtin.append_ #[35, 35] 35 #[v, .slice (some ⟨g0, 0, none⟩) 1 1]).run Try.prog W = .ok v1 w1 ∧ w1.ownsRow base 32 2 v1 (R ++ [x]).length ((R ++ [x]).flatMap enc32) ∧ W.grownBy w1 v.ownBlock ∧ (v1.ownBlock = v.ownBlock ∨ v1.ownBlock = some W.heap.size) := by
 obtain ⟨i0, hi, hz0, hz1, hz2⟩ := info_parts info32x
 obtain ⟨v1, w1, hr, h2, h3, _, h5⟩ := run_append_own_at (P := Try.prog) W base 35 35 32 i0 (.agg #[.int .i64 0, .int .i64 0]) 2 16 Try.underlying35 hi hz0 hz1 hz2 rfl (by decide) v R.length (R.flatMap enc32) HO ⟨g0, 0, none⟩ 1 1 (enc32 x) rfl (World.news_of_block hblk)
  (fun q hq => by simp [enc32] at hq; rcases hq with rfl | rfl <;> rfl) (by simp only [maxLen]; omega) hl hbase
 exact ⟨v1, w1, hr, by rw [List.flatMap_append, List.length_append]; simpa using h2, h3, h5⟩
def Kp (K : List (Nat × Obj)) (bo bv : Nat) (vo vv : Value) (w : World) : Prop := ∀ p, p ∈ K → w.heap[p.1]? = some p.2 ∧ p.1 ≠ bo ∧ p.1 ≠ bv ∧ vo.ownBlock ≠ some p.1 ∧ vv.ownBlock ≠ some p.1
structure PM (base : Nat) (W : World) (bo bv : Nat) (K : List (Nat × Obj)) (L : List S25) (V : List S32) : Prop where
 lo : base ≤ bo
 lv : base ≤ bv
 ne : bo ≠ bv
 own : ∃ vo vv, W.heap[bo]? = some (.cells #[vo] 28 (0, 0)) ∧ W.heap[bv]? = some (.cells #[vv] 35 (0, 0)) ∧ W.ownsRow base 25 4 vo L.length (L.flatMap enc25) ∧ W.ownsRow base 32 2 vv V.length (V.flatMap enc32) ∧
  vo.ownBlock ≠ some bo ∧ vo.ownBlock ≠ some bv ∧ vv.ownBlock ≠ some bo ∧ vv.ownBlock ≠ some bv ∧ (∀ g, vo.ownBlock = some g → vv.ownBlock ≠ some g) ∧ Kp K bo bv vo vv W
structure PW (base bo bv gX : Nat) (K : List (Nat × Obj)) (x : S25) (w0 : World) (L : List S25) (V : List S32) (vo vv co cv : Value) (w : World) : Prop where
 bd : Below base w0 w
 hbase : base ≤ w.heap.size
 hbo : w.heap[bo]? = some (.cells #[co] 28 (0, 0))
 hbv : w.heap[bv]? = some (.cells #[cv] 35 (0, 0))
 hX : w.heap[gX]? = some (.cells #[.string x.f0, .string x.f1, .int .i64 x.f2, .int .i64 x.f3] 25 (0, 0))
 ro : w.ownsRow base 25 4 vo L.length (L.flatMap enc25)
 rv : w.ownsRow base 32 2 vv V.length (V.flatMap enc32)
 o1 : vo.ownBlock ≠ some bo
 o2 : vo.ownBlock ≠ some bv
 o3 : vo.ownBlock ≠ some gX
 v1 : vv.ownBlock ≠ some bo
 v2 : vv.ownBlock ≠ some bv
 v3 : vv.ownBlock ≠ some gX
 ov : ∀ g, vo.ownBlock = some g → vv.ownBlock ≠ some g
 kp : Kp K bo bv vo vv w
theorem own_far {W : World} {v : Value} {base n : Nat} {e : TypeId} {sz : Nat} {xs : List Value} (h : W.ownsRow base e sz v n xs) : v.ownBlock ≠ some W.heap.size := fun e => Nat.lt_irrefl _ (own_lt h _ e)
theorem below_grown {base : Nat} {w0 w w1 : World} {row : Option Nat} (hb : Below base w0 w) (hg : w.grownBy w1 row) (hr : ∀ g, row = some g → base ≤ g) (hs : base ≤ w.heap.size) : Below base w0 w1 :=
 hb.trans ⟨hg.os, hg.tape, hg.output, hg.size, fun k hk => hg.block k (by omega) (fun e => by have := hr k e.symm; omega)⟩
theorem PW.alloc {base bo bv gX : Nat} {K : List (Nat × Obj)} {x : S25} {w0 : World} {L : List S25} {V : List S32} {vo vv co cv : Value} {w : World} (h : PW base bo bv gX K x w0 L V vo vv co cv w) (o : Obj) : PW base bo bv gX K x w0 L V vo vv co cv (w.alloc o) :=
 {bd := below_grown h.bd (World.grownBy_alloc _ _ none) (by simp) h.hbase
  hbase := Nat.le_trans h.hbase (by simp)
  hbo := qD3 h.hbo _
  hbv := qD3 h.hbv _
  hX := qD3 h.hX _
  ro := h.ro.kept (World.grownBy_alloc _ _ none) (by cases vo.ownBlock <;> simp)
  rv := h.rv.kept (World.grownBy_alloc _ _ none) (by cases vv.ownBlock <;> simp)
  o1 := h.o1, o2 := h.o2, o3 := h.o3, v1 := h.v1, v2 := h.v2, v3 := h.v3, ov := h.ov, kp := fun p hp => ⟨qD3 (h.kp p hp).1 _, (h.kp p hp).2⟩ }
theorem PW.drew {base bo bv gX : Nat} {K : List (Nat × Obj)} {x : S25} {w0 : World} {L : List S25} {V : List S32} {vo vv co cv : Value} {w : World} (h : PW base bo bv gX K x w0 L V vo vv co cv w) : PW base bo bv gX K x w0 L V vo vv co cv w.drew :=
 { bd := h.bd.drew, hbase := h.hbase, hbo := h.hbo, hbv := h.hbv, hX := h.hX, ro := h.ro, rv := h.rv, o1 := h.o1, o2 := h.o2, o3 := h.o3, v1 := h.v1, v2 := h.v2, v3 := h.v3, ov := h.ov, kp := h.kp }
theorem PW.put25 {base bo bv gX : Nat} {K : List (Nat × Obj)} {x : S25} {w0 : World} {L : List S25} {V : List S32} {vo vv co cv : Value} {w : World} (h : PW base bo bv gX K x w0 L V vo vv co cv w) {v1 : Value} {w1 : World} {L1 : List S25} (hro : w1.ownsRow base 25 4 v1 L1.length (L1.flatMap enc25)) (hg : w.grownBy w1 vo.ownBlock) (ho : v1.ownBlock = vo.ownBlock ∨ v1.ownBlock = some w.heap.size) : PW base bo bv gX K x w0 L1 V v1 vv co cv w1 := by
 have hl1 := qD0 h.hbo
 have hl2 := qD0 h.hbv
 have hl3 := qD0 h.hX
 have hne : ∀ g, g < w.heap.size → vo.ownBlock ≠ some g → v1.ownBlock ≠ some g := fun g hg1 hg2 e => by
  rcases ho with ho | ho
  ·exact hg2 (ho ▸ e)
  ·rw [ho] at e; injection e with e; omega
 exact
 {bd := below_grown h.bd hg (fun g hg => own_base h.ro g hg) h.hbase
  hbase := Nat.le_trans h.hbase hg.size
  hbo := qAN h.hbo hg (fun e => h.o1 e.symm)
  hbv := qAN h.hbv hg (fun e => h.o2 e.symm)
  hX := qAN h.hX hg (fun e => h.o3 e.symm)
  ro := hro
  rv := h.rv.kept hg (by cases hv : vv.ownBlock with
   | none => exact .inl rfl
   | some g => exact .inr fun e => h.ov g e.symm hv)
  o1 := hne _ hl1 h.o1, o2 := hne _ hl2 h.o2, o3 := hne _ hl3 h.o3, v1 := h.v1, v2 := h.v2, v3 := h.v3
  kp := fun p hp => have q := h.kp p hp; ⟨qAN q.1 hg (fun e => q.2.2.2.1 e.symm), q.2.1, q.2.2.1, hne _ (qD0 q.1) q.2.2.2.1, q.2.2.2.2⟩
  ov := fun g e e' => by
   rcases ho with ho | ho
   ·exact h.ov g (ho ▸ e) e'
   ·rw [ho] at e; injection e with e; exact own_far h.rv (e ▸ e') }
theorem PW.put32 {base bo bv gX : Nat} {K : List (Nat × Obj)} {x : S25} {w0 : World} {L : List S25} {V : List S32} {vo vv co cv : Value} {w : World} (h : PW base bo bv gX K x w0 L V vo vv co cv w) {u1 : Value} {w1 : World} {V1 : List S32} (hrv : w1.ownsRow base 32 2 u1 V1.length (V1.flatMap enc32)) (hg : w.grownBy w1 vv.ownBlock) (ho : u1.ownBlock = vv.ownBlock ∨ u1.ownBlock = some w.heap.size) : PW base bo bv gX K x w0 L V1 vo u1 co cv w1 := by
 have hl1 := qD0 h.hbo
 have hl2 := qD0 h.hbv
 have hl3 := qD0 h.hX
 have hne : ∀ g, g < w.heap.size → vv.ownBlock ≠ some g → u1.ownBlock ≠ some g := fun g hg1 hg2 e => by
  rcases ho with ho | ho
  ·exact hg2 (ho ▸ e)
  ·rw [ho] at e; injection e with e; omega
 exact
 {bd := below_grown h.bd hg (fun g hg => own_base h.rv g hg) h.hbase
  hbase := Nat.le_trans h.hbase hg.size
  hbo := qAN h.hbo hg (fun e => h.v1 e.symm)
  hbv := qAN h.hbv hg (fun e => h.v2 e.symm)
  hX := qAN h.hX hg (fun e => h.v3 e.symm)
  ro := h.ro.kept hg (by cases hv : vo.ownBlock with
   | none => exact .inl rfl
   | some g => exact .inr fun e => h.ov g hv e.symm)
  rv := hrv
  o1 := h.o1, o2 := h.o2, o3 := h.o3, v1 := hne _ hl1 h.v1, v2 := hne _ hl2 h.v2, v3 := hne _ hl3 h.v3
  kp := fun p hp => have q := h.kp p hp; ⟨qAN q.1 hg (fun e => q.2.2.2.2 e.symm), q.2.1, q.2.2.1, q.2.2.2.1, hne _ (qD0 q.1) q.2.2.2.2⟩
  ov := fun g e e' => by
   rcases ho with ho | ho
   ·exact h.ov g e (ho ▸ e')
   ·rw [ho] at e'; injection e' with e'; exact own_far h.ro (e' ▸ e) }
theorem PW.set28 {base bo bv gX : Nat} {K : List (Nat × Obj)} {x : S25} {w0 : World} {L : List S25} {V : List S32} {vo vv co cv : Value} {w : World} (h : PW base bo bv gX K x w0 L V vo vv co cv w) (lo : base ≤ bo) (ne : bo ≠ bv) (nX : bo ≠ gX) (u : Value) : PW base bo bv gX K x w0 L V vo vv u cv (w.setCell ⟨bo, 0, none⟩ u) :=
 have hg := grownBy_setCell' w bo u
 {bd := below_grown h.bd hg (fun g hg => by injection hg with hg; omega) h.hbase
  hbase := Nat.le_trans h.hbase hg.size
  hbo := qAJ h.hbo 0 u rfl
  hbv := qF9 h.hbv ne.symm _
  hX := qF9 h.hX nX.symm _
  kp := fun p hp => have q := h.kp p hp; ⟨qAN q.1 hg (fun e => q.2.1 (Option.some.inj e)), q.2⟩
  ro := h.ro.kept hg (.inr h.o1)
  rv := h.rv.kept hg (.inr h.v1)
  o1 := h.o1, o2 := h.o2, o3 := h.o3, v1 := h.v1, v2 := h.v2, v3 := h.v3, ov := h.ov }
theorem PW.set35 {base bo bv gX : Nat} {K : List (Nat × Obj)} {x : S25} {w0 : World} {L : List S25} {V : List S32} {vo vv co cv : Value} {w : World} (h : PW base bo bv gX K x w0 L V vo vv co cv w) (lv : base ≤ bv) (ne : bo ≠ bv) (nX : bv ≠ gX) (u : Value) : PW base bo bv gX K x w0 L V vo vv co u (w.setCell ⟨bv, 0, none⟩ u) :=
 have hg := grownBy_setCell' w bv u
 {bd := below_grown h.bd hg (fun g hg => by injection hg with hg; omega) h.hbase
  hbase := Nat.le_trans h.hbase hg.size
  hbo := qF9 h.hbo ne _
  hbv := qAJ h.hbv 0 u rfl
  hX := qF9 h.hX nX.symm _
  kp := fun p hp => have q := h.kp p hp; ⟨qAN q.1 hg (fun e => q.2.2.1 (Option.some.inj e)), q.2⟩
  ro := h.ro.kept hg (.inr h.o2)
  rv := h.rv.kept hg (.inr h.v2)
  o1 := h.o1, o2 := h.o2, o3 := h.o3, v1 := h.v1, v2 := h.v2, v3 := h.v3, ov := h.ov }
theorem app_run {o : Oper} {a : Act} {W w1 : World} {v1 : Value} (s x : Operand) (t : TypeId) (ho : o.op = .call { callee := .builtin .append, args := #[s, x], argTypes := #[t, t] }) (hty : o.type = t)
  (v u : Value) (hs : a.eval s = v) (hx : a.eval x = u) (hr : (Builtin.append_ #[t, t] t #[v, u]).run Try.prog W = .ok v1 w1) : (execOp a.eval o).run Try.prog W = .ok (.value v1) w1 := by
 unfold execOp
 simp only [ho, resolve, invoke, builtin, Sem.run_bind, Sem.run_pure, Result.andThen_ok, List.map_toArray, List.map_cons, List.map_nil, hs, hx, hty, hr]
theorem store_run {o : Oper} {a : Act} {W w1 : World} (p x : Operand) (t : TypeId) (ho : o.op = .store t p x) (v u : Value) (hp : a.eval p = v) (hx : a.eval x = u) (hr : (Instr.storeAt t v u).run Try.prog W = .ok () w1) : (execOp a.eval o).run Try.prog W = .ok .skip w1 := by
 unfold execOp
 simp only [ho, hp, hx, Sem.run_bind, Sem.run_pure, Result.andThen_ok, hr]
def One (k d : Nat) (cs : Array Value) (t : TypeId) (bo bv : Nat) (vo vv : Value) (l : Array Bool) (a : Act) (w : World) : Prop :=
 l.getD k false = true → ∃ g, a.eval (.tmp d) = .slice (some ⟨g, 0, none⟩) 1 1 ∧ w.heap[g]? = some (.cells cs t (0, 0)) ∧ g ≠ bo ∧ g ≠ bv ∧ vo.ownBlock ≠ some g ∧ vv.ownBlock ≠ some g
structure PI (base bo bv gX : Nat) (K : List (Nat × Obj)) (x : S25) (y : S32) (w0 : World) (L : List S25) (V : List S32) (vo vv : Value) (l : Array Bool) (a : Act) (w : World) : Prop where
 sz : l.size = 12
 tz : a.tmps.size = 18
 df : a.defers = []
 t1 : a.eval (.tmp 1) = .int .i64 y.f0
 t2 : a.eval (.tmp 2) = .int .i64 y.f1
 t3 : a.eval (.tmp 3) = .pointer (some ⟨bo, 0, none⟩)
 t4 : a.eval (.tmp 4) = .pointer (some ⟨bv, 0, none⟩)
 t5 : a.eval (.tmp 5) = .pointer (some ⟨gX, 0, none⟩)
 i10 : l.getD 10 false = true → l.getD 0 false = true ∧ l.getD 3 false = true
 i11 : l.getD 11 false = true → l.getD 4 false = true ∧ l.getD 9 false = true
 s0 : Inv.Slot 0 8 vo l a
 s1 : Inv.Slot 1 9 (.agg #[.string x.f0, .string x.f1, .int .i64 x.f2, .int .i64 x.f3]) l a
 s4 : Inv.Slot 4 12 vv l a
 s5 : Inv.Slot 5 13 (.int .i64 y.f0) l a
 s6 : Inv.Slot 6 14 (.int .i64 y.f1) l a
 s7 : Inv.Slot 7 15 (.agg #[.int .i64 y.f0, .int .i64 y.f1]) l a
 W : ∃ L1 V1 vo1 vv1 co cv, PW base bo bv gX K x w0 L1 V1 vo1 vv1 co cv w ∧
  (if l.getD 3 false = true then L1 = L ++ [x] ∧ a.eval (.tmp 11) = vo1 else L1 = L ∧ vo1 = vo) ∧
  (if l.getD 9 false = true then V1 = V ++ [y] ∧ a.eval (.tmp 17) = vv1 else V1 = V ∧ vv1 = vv) ∧
  co = (if l.getD 10 false = true then vo1 else vo) ∧ cv = (if l.getD 11 false = true then vv1 else vv) ∧
  One 2 10 #[.string x.f0, .string x.f1, .int .i64 x.f2, .int .i64 x.f3] 25 bo bv vo1 vv1 l a w ∧ One 8 16 #[.int .i64 y.f0, .int .i64 y.f1] 32 bo bv vo1 vv1 l a w
theorem PI.nx {base bo bv gX : Nat} {K : List (Nat × Obj)} {x : S25} {y : S32} {w0 : World} {L : List S25} {V : List S32} {vo vv : Value} {l : Array Bool} {a : Act} {w w' : World} {i d : Nat} {v : Value} (h : PI base bo bv gX K x y w0 L V vo vv l a w) (hi10 : (l.setIfInBounds i true).getD 10 false = true → (l.setIfInBounds i true).getD 0 false = true ∧ (l.setIfInBounds i true).getD 3 false = true) (hi11 : (l.setIfInBounds i true).getD 11 false = true → (l.setIfInBounds i true).getD 4 false = true ∧ (l.setIfInBounds i true).getD 9 false = true) (hs0 : Inv.Slot 0 8 vo (l.setIfInBounds i true) (a.put (some d) v)) (hs1 : Inv.Slot 1 9 (.agg #[.string x.f0, .string x.f1, .int .i64 x.f2, .int .i64 x.f3]) (l.setIfInBounds i true) (a.put (some d) v)) (hs4 : Inv.Slot 4 12 vv (l.setIfInBounds i true) (a.put (some d) v)) (hs5 : Inv.Slot 5 13 (.int .i64 y.f0) (l.setIfInBounds i true) (a.put (some d) v)) (hs6 : Inv.Slot 6 14 (.int .i64 y.f1) (l.setIfInBounds i true) (a.put (some d) v)) (hs7 : Inv.Slot 7 15 (.agg #[.int .i64 y.f0, .int .i64 y.f1]) (l.setIfInBounds i true) (a.put (some d) v)) (hW : ∃ L1 V1 vo1 vv1 co cv, PW base bo bv gX K x w0 L1 V1 vo1 vv1 co cv w' ∧
  (if (l.setIfInBounds i true).getD 3 false = true then L1 = L ++ [x] ∧ (a.put (some d) v).eval (.tmp 11) = vo1 else L1 = L ∧ vo1 = vo) ∧
  (if (l.setIfInBounds i true).getD 9 false = true then V1 = V ++ [y] ∧ (a.put (some d) v).eval (.tmp 17) = vv1 else V1 = V ∧ vv1 = vv) ∧
  co = (if (l.setIfInBounds i true).getD 10 false = true then vo1 else vo) ∧ cv = (if (l.setIfInBounds i true).getD 11 false = true then vv1 else vv) ∧
  One 2 10 #[.string x.f0, .string x.f1, .int .i64 x.f2, .int .i64 x.f3] 25 bo bv vo1 vv1 (l.setIfInBounds i true) (a.put (some d) v) w' ∧ One 8 16 #[.int .i64 y.f0, .int .i64 y.f1] 32 bo bv vo1 vv1 (l.setIfInBounds i true) (a.put (some d) v) w') (hd : 5 < d := by decide) : PI base bo bv gX K x y w0 L V vo vv (l.setIfInBounds i true) (a.put (some d) v) w' :=
 { sz := by simpa using h.sz, tz := by simpa [Act.put] using h.tz, df := h.df, t1 := (Inv.qB7 (by omega)).trans h.t1, t2 := (Inv.qB7 (by omega)).trans h.t2, t3 := (Inv.qB7 (by omega)).trans h.t3, t4 := (Inv.qB7 (by omega)).trans h.t4, t5 := (Inv.qB7 (by omega)).trans h.t5, i10 := hi10, i11 := hi11, s0 := hs0, s1 := hs1, s4 := hs4, s5 := hs5, s6 := hs6, s7 := hs7, W := hW }
set_option maxHeartbeats 4000000 in
set_option maxHeartbeats 4000000 in
set_option maxRecDepth 100000 in
theorem put.walk (base bo bv : Nat) (K : List (Nat × Obj)) (L : List S25) (V : List S32) (x : S25) (y : S32) (w0 W : World) (HM : PM base W bo bv K L V) (hB : Below base w0 W) (hbase : base ≤ W.heap.size) (hl : (L.length + 1) * 48 ≤ 140737488355328) (hv : (V.length + 1) * 16 ≤ 140737488355328) :
  Calls Try.prog 23 #[.agg #[.string x.f0, .string x.f1, .int .i64 x.f2, .int .i64 x.f3], .int .i64 y.f0, .int .i64 y.f1, .pointer (some ⟨bo, 0, none⟩), .pointer (some ⟨bv, 0, none⟩)] W fun e W' => e = .returned (.tuple #[]) ∧ PM base W' bo bv K (L ++ [x]) (V ++ [y]) ∧ Below base w0 W' := by
 obtain ⟨lo, lv, ne, vo, vv, hbo, hbv, ho, hv_, n1, n2, n3, n4, n5, n6⟩ := HM
 have nX : bo ≠ W.heap.size := Nat.ne_of_lt (qD0 hbo)
 have nXv : bv ≠ W.heap.size := Nat.ne_of_lt (qD0 hbv)
 have hN := heap_alloc_new W (.cells #[.string x.f0, .string x.f1, .int .i64 x.f2, .int .i64 x.f3] 25)
 have hP : PW base bo bv W.heap.size K x w0 L V vo vv vo vv (W.alloc (.cells #[.string x.f0, .string x.f1, .int .i64 x.f2, .int .i64 x.f3] 25)) :=
  {bd := below_grown hB (World.grownBy_alloc _ _ none) (by simp) hbase
   hbase := Nat.le_trans hbase (by simp)
   hbo := qD3 hbo _, hbv := qD3 hbv _, hX := hN
   ro := ho.kept (World.grownBy_alloc _ _ none) (by cases vo.ownBlock <;> simp)
   rv := hv_.kept (World.grownBy_alloc _ _ none) (by cases vv.ownBlock <;> simp)
   o1 := n1, o2 := n2, o3 := own_far ho, v1 := n3, v2 := n4, v3 := own_far hv_, ov := n5, kp := fun p hp => ⟨qD3 (n6 p hp).1 _, (n6 p hp).2⟩ }
 go_enter Try.func23, Try.ntmps23
 go_wp2_with fail
 generalize hgX : W.heap.size = gX at *
 refine wp_region_any (by kernel_rfl) (Inv.wpAny_inv (I := PI base bo bv gX K x y w0 L V vo vv) ?step ?hend _ _ _ _ (by rfl) (by decide) ?start)
 case start =>
  exact { sz := rfl, tz := rfl, df := rfl, t1 := rfl, t2 := rfl, t3 := rfl, t4 := rfl, t5 := rfl, i10 := fun hb => absurd hb (by decide), i11 := fun hb => absurd hb (by decide), s0 := fun hb => absurd hb (by decide), s1 := fun hb => absurd hb (by decide), s4 := fun hb => absurd hb (by decide), s5 := fun hb => absurd hb (by decide), s6 := fun hb => absurd hb (by decide), s7 := fun hb => absurd hb (by decide), W := ⟨L, V, vo, vv, vo, vv, hP.drew, ⟨rfl, rfl⟩, ⟨rfl, rfl⟩, rfl, rfl, fun hb => absurd hb (by decide), fun hb => absurd hb (by decide)⟩ }
 case hend =>
  intro l a w hn hs h
  skip
  have b0 : l[0]?.getD false = true := by have h_ := Inv.qCP hn hs (i := 0) (by decide) (by simp [Region.binds]); rwa [Array.getD_eq_getD_getElem?] at h_
  have b1 : l[1]?.getD false = true := by have h_ := Inv.qCP hn hs (i := 1) (by decide) (by simp [Region.binds]); rwa [Array.getD_eq_getD_getElem?] at h_
  have b2 : l[2]?.getD false = true := by have h_ := Inv.qCP hn hs (i := 2) (by decide) (by simp [Region.binds, b1]); rwa [Array.getD_eq_getD_getElem?] at h_
  have b3 : l[3]?.getD false = true := by have h_ := Inv.qCP hn hs (i := 3) (by decide) (by simp [Region.binds, b0, b2]); rwa [Array.getD_eq_getD_getElem?] at h_
  have b4 : l[4]?.getD false = true := by have h_ := Inv.qCP hn hs (i := 4) (by decide) (by simp [Region.binds]); rwa [Array.getD_eq_getD_getElem?] at h_
  have b5 : l[5]?.getD false = true := by have h_ := Inv.qCP hn hs (i := 5) (by decide) (by simp [Region.binds]); rwa [Array.getD_eq_getD_getElem?] at h_
  have b6 : l[6]?.getD false = true := by have h_ := Inv.qCP hn hs (i := 6) (by decide) (by simp [Region.binds]); rwa [Array.getD_eq_getD_getElem?] at h_
  have b7 : l[7]?.getD false = true := by have h_ := Inv.qCP hn hs (i := 7) (by decide) (by simp [Region.binds, b5, b6]); rwa [Array.getD_eq_getD_getElem?] at h_
  have b8 : l[8]?.getD false = true := by have h_ := Inv.qCP hn hs (i := 8) (by decide) (by simp [Region.binds, b7]); rwa [Array.getD_eq_getD_getElem?] at h_
  have b9 : l[9]?.getD false = true := by have h_ := Inv.qCP hn hs (i := 9) (by decide) (by simp [Region.binds, b3, b4, b8]); rwa [Array.getD_eq_getD_getElem?] at h_
  have b10 : l[10]?.getD false = true := by have h_ := Inv.qCP hn hs (i := 10) (by decide) (by simp [Region.binds, b0, b1, b2, b3, b9]); rwa [Array.getD_eq_getD_getElem?] at h_
  have b11 : l[11]?.getD false = true := by have h_ := Inv.qCP hn hs (i := 11) (by decide) (by simp [Region.binds, b0, b1, b2, b3, b4, b5, b6, b7, b8, b9, b10]); rwa [Array.getD_eq_getD_getElem?] at h_
  obtain ⟨L1, V1, vo1, vv1, co, cv, hp, c3, c9, c10, c11, g2, g8⟩ := h.W
  simp only [Array.getD_eq_getD_getElem?, b3, b9, b10, b11, if_true] at c3 c9 c10 c11
  obtain ⟨rfl, _⟩ := c3
  obtain ⟨rfl, _⟩ := c9
  subst c10
  subst c11
  refine bodyPost_end (results_none rfl _ _ _) h.df ?_
  exact ⟨rfl, ⟨lo, lv, ne, _, _, hp.hbo, hp.hbv, hp.ro, hp.rv, hp.o1, hp.o2, hp.v1, hp.v2, hp.ov, hp.kp⟩, hp.bd⟩
 case step =>
  intro l a w i hi hs h
  obtain ⟨hlt, hi2, hi3⟩ := Inv.ready_iff.1 hi
  clear hi hs
  obtain ⟨L1, V1, vo1, vv1, co, cv, hp, c3, c9, c10, c11, g2, g8⟩ := h.W
  have hlt' : i < 12 := hlt
  clear hlt
  rcases (by omega : i = 0 ∨ i = 1 ∨ i = 2 ∨ i = 3 ∨ i = 4 ∨ i = 5 ∨ i = 6 ∨ i = 7 ∨ i = 8 ∨ i = 9 ∨ i = 10 ∨ i = 11) with rfl | rfl | rfl | rfl | rfl | rfl | rfl | rfl | rfl | rfl | rfl | rfl
  ·-- operation 0
   have hnot : l.getD 0 false = false := Inv.qD4 (by rw [h.sz]; decide) hi2
   have hsz0 : 0 < l.size := by rw [h.sz]; decide
   have e2 := Inv.bo hsz0 2
   have e3 := Inv.bo hsz0 3
   have e8 := Inv.bo hsz0 8
   have e9 := Inv.bo hsz0 9
   have e10 := Inv.bo hsz0 10
   have e11 := Inv.bo hsz0 11
   have hn : l.getD 10 false = false := Bool.eq_false_iff.2 fun hb => by have := (h.i10 hb).1; rw [hnot] at this; cases this
   have hc : w.cell? ⟨bo, 0, none⟩ = some vo := (qA4 hp.hbo 0).trans (by rw [c10, hn]; rfl)
   have h3 := h.t3; simp only [Act.eval, Array.getD_eq_getD_getElem?] at h3
   refine Inv.qDW (i := 0) rfl rfl (Inv.qEB (v := vo) (w' := w) (by go_simp) ?_)
   show PI base bo bv gX K x y w0 L V vo vv (l.setIfInBounds 0 true) (a.put (some 8) (vo)) (w)
   refine h.nx ?_ ?_ ?_ ?_ ?_ ?_ ?_ ?_ ?_
   ·intro hb; rw [e10] at hb; exact ⟨Inv.qBF hsz0 (h.i10 hb).1, Inv.qBF hsz0 (h.i10 hb).2⟩
   ·intro hb; rw [e11] at hb; exact ⟨Inv.qBF hsz0 (h.i11 hb).1, Inv.qBF hsz0 (h.i11 hb).2⟩
   ·exact Inv.Slot.same (by rw [h.tz]; decide)
   ·exact h.s1.other hsz0 (by decide) (by decide)
   ·exact h.s4.other hsz0 (by decide) (by decide)
   ·exact h.s5.other hsz0 (by decide) (by decide)
   ·exact h.s6.other hsz0 (by decide) (by decide)
   ·exact h.s7.other hsz0 (by decide) (by decide)
   ·exact ⟨L1, V1, vo1, vv1, co, cv, hp, by rw [e3, Inv.qB7 (by decide)]; exact c3, by rw [e9, Inv.qB7 (by decide)]; exact c9, by rw [e10]; exact c10, by rw [e11]; exact c11, fun hb => by rw [e2] at hb; obtain ⟨g, q1, q2⟩ := g2 hb; exact ⟨g, (Inv.qB7 (by decide)).trans q1, q2⟩, fun hb => by rw [e8] at hb; obtain ⟨g, q1, q2⟩ := g8 hb; exact ⟨g, (Inv.qB7 (by decide)).trans q1, q2⟩⟩
  ·-- operation 1
   have hnot : l.getD 1 false = false := Inv.qD4 (by rw [h.sz]; decide) hi2
   have hsz1 : 1 < l.size := by rw [h.sz]; decide
   have e2 := Inv.bo hsz1 2
   have e3 := Inv.bo hsz1 3
   have e8 := Inv.bo hsz1 8
   have e9 := Inv.bo hsz1 9
   have e10 := Inv.bo hsz1 10
   have e11 := Inv.bo hsz1 11
   have h5 := h.t5; simp only [Act.eval, Array.getD_eq_getD_getElem?] at h5
   have q0 : w.cell? ⟨gX, 0, none⟩ = some (.string x.f0) := (qA4 hp.hX 0).trans rfl
   have q1 : w.cell? ⟨gX, 1, none⟩ = some (.string x.f1) := (qA4 hp.hX 1).trans rfl
   have q2 : w.cell? ⟨gX, 2, none⟩ = some (.int .i64 x.f2) := (qA4 hp.hX 2).trans rfl
   have q3 : w.cell? ⟨gX, 3, none⟩ = some (.int .i64 x.f3) := (qA4 hp.hX 3).trans rfl
   refine Inv.qDW (i := 1) rfl rfl (Inv.qEB (v := .agg #[.string x.f0, .string x.f1, .int .i64 x.f2, .int .i64 x.f3]) (w' := w) (by go_simp) ?_)
   show PI base bo bv gX K x y w0 L V vo vv (l.setIfInBounds 1 true) (a.put (some 9) (.agg #[.string x.f0, .string x.f1, .int .i64 x.f2, .int .i64 x.f3])) (w)
   refine h.nx ?_ ?_ ?_ ?_ ?_ ?_ ?_ ?_ ?_
   ·intro hb; rw [e10] at hb; exact ⟨Inv.qBF hsz1 (h.i10 hb).1, Inv.qBF hsz1 (h.i10 hb).2⟩
   ·intro hb; rw [e11] at hb; exact ⟨Inv.qBF hsz1 (h.i11 hb).1, Inv.qBF hsz1 (h.i11 hb).2⟩
   ·exact h.s0.other hsz1 (by decide) (by decide)
   ·exact Inv.Slot.same (by rw [h.tz]; decide)
   ·exact h.s4.other hsz1 (by decide) (by decide)
   ·exact h.s5.other hsz1 (by decide) (by decide)
   ·exact h.s6.other hsz1 (by decide) (by decide)
   ·exact h.s7.other hsz1 (by decide) (by decide)
   ·exact ⟨L1, V1, vo1, vv1, co, cv, hp, by rw [e3, Inv.qB7 (by decide)]; exact c3, by rw [e9, Inv.qB7 (by decide)]; exact c9, by rw [e10]; exact c10, by rw [e11]; exact c11, fun hb => by rw [e2] at hb; obtain ⟨g, q1, q2⟩ := g2 hb; exact ⟨g, (Inv.qB7 (by decide)).trans q1, q2⟩, fun hb => by rw [e8] at hb; obtain ⟨g, q1, q2⟩ := g8 hb; exact ⟨g, (Inv.qB7 (by decide)).trans q1, q2⟩⟩
  ·-- operation 2
   have hnot : l.getD 2 false = false := Inv.qD4 (by rw [h.sz]; decide) hi2
   have hd1 : l.getD 1 false = true := by simpa [Region.binds] using hi3
   have hsz2 : 2 < l.size := by rw [h.sz]; decide
   have e2 : (l.setIfInBounds 2 true).getD 2 false = true := by rw [Inv.qEW hsz2, if_pos rfl]
   have e3 := Inv.bo hsz2 3
   have e8 := Inv.bo hsz2 8
   have e9 := Inv.bo hsz2 9
   have e10 := Inv.bo hsz2 10
   have e11 := Inv.bo hsz2 11
   have h9 := h.s1 hd1; simp only [Act.eval, Array.getD_eq_getD_getElem?] at h9
   refine Inv.qDW (i := 2) rfl rfl (Inv.qEB (v := .slice (some ⟨w.heap.size, 0, none⟩) 1 1) (w' := w.alloc (.cells #[.string x.f0, .string x.f1, .int .i64 x.f2, .int .i64 x.f3] 25)) (by go_simp) ?_)
   show PI base bo bv gX K x y w0 L V vo vv (l.setIfInBounds 2 true) (a.put (some 10) (.slice (some ⟨w.heap.size, 0, none⟩) 1 1)) (w.alloc (.cells #[.string x.f0, .string x.f1, .int .i64 x.f2, .int .i64 x.f3] 25))
   refine h.nx ?_ ?_ ?_ ?_ ?_ ?_ ?_ ?_ ?_
   ·intro hb; rw [e10] at hb; exact ⟨Inv.qBF hsz2 (h.i10 hb).1, Inv.qBF hsz2 (h.i10 hb).2⟩
   ·intro hb; rw [e11] at hb; exact ⟨Inv.qBF hsz2 (h.i11 hb).1, Inv.qBF hsz2 (h.i11 hb).2⟩
   ·exact h.s0.other hsz2 (by decide) (by decide)
   ·exact h.s1.other hsz2 (by decide) (by decide)
   ·exact h.s4.other hsz2 (by decide) (by decide)
   ·exact h.s5.other hsz2 (by decide) (by decide)
   ·exact h.s6.other hsz2 (by decide) (by decide)
   ·exact h.s7.other hsz2 (by decide) (by decide)
   ·exact ⟨L1, V1, vo1, vv1, co, cv, hp.alloc _, by rw [e3, Inv.qB7 (by decide)]; exact c3, by rw [e9, Inv.qB7 (by decide)]; exact c9, by rw [e10]; exact c10, by rw [e11]; exact c11, fun _ => ⟨w.heap.size, Inv.put_same (by rw [h.tz]; decide), heap_alloc_new _ _, fun e => Nat.lt_irrefl _ (e ▸ qD0 hp.hbo), fun e => Nat.lt_irrefl _ (e ▸ qD0 hp.hbv), own_far hp.ro, own_far hp.rv⟩, fun hb => by rw [e8] at hb; obtain ⟨g, q1, q2, q3⟩ := g8 hb; exact ⟨g, (Inv.qB7 (by decide)).trans q1, qD3 q2 _, q3⟩⟩
  ·-- operation 3
   have hnot : l.getD 3 false = false := Inv.qD4 (by rw [h.sz]; decide) hi2
   obtain ⟨hd0, hd2⟩ : l.getD 0 false = true ∧ l.getD 2 false = true := by have h_ := hi3; simp [Region.binds] at h_; simp [h_]
   have hsz3 : 3 < l.size := by rw [h.sz]; decide
   have e2 := Inv.bo hsz3 2
   have e3 : (l.setIfInBounds 3 true).getD 3 false = true := by rw [Inv.qEW hsz3, if_pos rfl]
   have e8 := Inv.bo hsz3 8
   have e9 := Inv.bo hsz3 9
   have e10 := Inv.bo hsz3 10
   have e11 := Inv.bo hsz3 11
   rw [hnot, if_neg Bool.false_ne_true] at c3
   obtain ⟨rfl, rfl⟩ : L = L1 ∧ vo = vo1 := ⟨c3.1.symm, c3.2.symm⟩
   have h10 : l.getD 10 false = false := Bool.eq_false_iff.2 fun hb => by have := (h.i10 hb).2; rw [hnot] at this; cases this
   have h8 := h.s0 hd0
   obtain ⟨g, q1, q2, q3, q4, q5, q6⟩ := g2 hd2
   obtain ⟨u1, w1, hrun, hown, hgr, hob⟩ := app25 w base vo L hp.ro g x q2 hp.hbase hl
   have hne : ∀ g, g < w.heap.size → vo.ownBlock ≠ some g → u1.ownBlock ≠ some g := fun g hg1 hg2 e => by
    rcases hob with ho | ho
    ·exact hg2 (ho ▸ e)
    ·rw [ho] at e; injection e with e; omega
   refine Inv.qDW (i := 3) rfl rfl (Inv.qEB (v := u1) (w' := w1) (app_run (.tmp 8) (.tmp 10) 28 rfl rfl _ _ h8 q1 hrun) ?_)
   show PI base bo bv gX K x y w0 L V vo vv (l.setIfInBounds 3 true) (a.put (some 11) (u1)) (w1)
   refine h.nx ?_ ?_ ?_ ?_ ?_ ?_ ?_ ?_ ?_
   ·intro hb; rw [e10] at hb; exact ⟨Inv.qBF hsz3 (h.i10 hb).1, Inv.qBF hsz3 (h.i10 hb).2⟩
   ·intro hb; rw [e11] at hb; exact ⟨Inv.qBF hsz3 (h.i11 hb).1, Inv.qBF hsz3 (h.i11 hb).2⟩
   ·exact h.s0.other hsz3 (by decide) (by decide)
   ·exact h.s1.other hsz3 (by decide) (by decide)
   ·exact h.s4.other hsz3 (by decide) (by decide)
   ·exact h.s5.other hsz3 (by decide) (by decide)
   ·exact h.s6.other hsz3 (by decide) (by decide)
   ·exact h.s7.other hsz3 (by decide) (by decide)
   ·exact ⟨L ++ [x], V1, u1, vv1, co, cv, hp.put25 hown hgr hob, by rw [e3]; exact ⟨rfl, Inv.put_same (by rw [h.tz]; decide)⟩, by rw [e9, Inv.qB7 (by decide)]; exact c9, by rw [e10, h10]; rw [h10] at c10; exact c10, by rw [e11]; exact c11, fun hb => ⟨g, (Inv.qB7 (by decide)).trans q1, qAN q2 hgr (fun e => q5 e.symm), q3, q4, hne g (qD0 q2) q5, q6⟩, fun hb => by rw [e8] at hb; obtain ⟨g', p1, p2, p3, p4, p5, p6⟩ := g8 hb; exact ⟨g', (Inv.qB7 (by decide)).trans p1, qAN p2 hgr (fun e => p5 e.symm), p3, p4, hne g' (qD0 p2) p5, p6⟩⟩
  ·-- operation 4
   have hnot : l.getD 4 false = false := Inv.qD4 (by rw [h.sz]; decide) hi2
   have hsz4 : 4 < l.size := by rw [h.sz]; decide
   have e2 := Inv.bo hsz4 2
   have e3 := Inv.bo hsz4 3
   have e8 := Inv.bo hsz4 8
   have e9 := Inv.bo hsz4 9
   have e10 := Inv.bo hsz4 10
   have e11 := Inv.bo hsz4 11
   have hn : l.getD 11 false = false := Bool.eq_false_iff.2 fun hb => by have := (h.i11 hb).1; rw [hnot] at this; cases this
   have hc : w.cell? ⟨bv, 0, none⟩ = some vv := (qA4 hp.hbv 0).trans (by rw [c11, hn]; rfl)
   have h4 := h.t4; simp only [Act.eval, Array.getD_eq_getD_getElem?] at h4
   refine Inv.qDW (i := 4) rfl rfl (Inv.qEB (v := vv) (w' := w) (by go_simp) ?_)
   show PI base bo bv gX K x y w0 L V vo vv (l.setIfInBounds 4 true) (a.put (some 12) (vv)) (w)
   refine h.nx ?_ ?_ ?_ ?_ ?_ ?_ ?_ ?_ ?_
   ·intro hb; rw [e10] at hb; exact ⟨Inv.qBF hsz4 (h.i10 hb).1, Inv.qBF hsz4 (h.i10 hb).2⟩
   ·intro hb; rw [e11] at hb; exact ⟨Inv.qBF hsz4 (h.i11 hb).1, Inv.qBF hsz4 (h.i11 hb).2⟩
   ·exact h.s0.other hsz4 (by decide) (by decide)
   ·exact h.s1.other hsz4 (by decide) (by decide)
   ·exact Inv.Slot.same (by rw [h.tz]; decide)
   ·exact h.s5.other hsz4 (by decide) (by decide)
   ·exact h.s6.other hsz4 (by decide) (by decide)
   ·exact h.s7.other hsz4 (by decide) (by decide)
   ·exact ⟨L1, V1, vo1, vv1, co, cv, hp, by rw [e3, Inv.qB7 (by decide)]; exact c3, by rw [e9, Inv.qB7 (by decide)]; exact c9, by rw [e10]; exact c10, by rw [e11]; exact c11, fun hb => by rw [e2] at hb; obtain ⟨g, q1, q2⟩ := g2 hb; exact ⟨g, (Inv.qB7 (by decide)).trans q1, q2⟩, fun hb => by rw [e8] at hb; obtain ⟨g, q1, q2⟩ := g8 hb; exact ⟨g, (Inv.qB7 (by decide)).trans q1, q2⟩⟩
  ·-- operation 5
   have hnot : l.getD 5 false = false := Inv.qD4 (by rw [h.sz]; decide) hi2
   have hsz5 : 5 < l.size := by rw [h.sz]; decide
   have e2 := Inv.bo hsz5 2
   have e3 := Inv.bo hsz5 3
   have e8 := Inv.bo hsz5 8
   have e9 := Inv.bo hsz5 9
   have e10 := Inv.bo hsz5 10
   have e11 := Inv.bo hsz5 11
   have h1 := h.t1; simp only [Act.eval, Array.getD_eq_getD_getElem?] at h1
   refine Inv.qDW (i := 5) rfl rfl (Inv.qEB (v := .int .i64 y.f0) (w' := w) (by go_simp) ?_)
   show PI base bo bv gX K x y w0 L V vo vv (l.setIfInBounds 5 true) (a.put (some 13) (.int .i64 y.f0)) (w)
   refine h.nx ?_ ?_ ?_ ?_ ?_ ?_ ?_ ?_ ?_
   ·intro hb; rw [e10] at hb; exact ⟨Inv.qBF hsz5 (h.i10 hb).1, Inv.qBF hsz5 (h.i10 hb).2⟩
   ·intro hb; rw [e11] at hb; exact ⟨Inv.qBF hsz5 (h.i11 hb).1, Inv.qBF hsz5 (h.i11 hb).2⟩
   ·exact h.s0.other hsz5 (by decide) (by decide)
   ·exact h.s1.other hsz5 (by decide) (by decide)
   ·exact h.s4.other hsz5 (by decide) (by decide)
   ·exact Inv.Slot.same (by rw [h.tz]; decide)
   ·exact h.s6.other hsz5 (by decide) (by decide)
   ·exact h.s7.other hsz5 (by decide) (by decide)
   ·exact ⟨L1, V1, vo1, vv1, co, cv, hp, by rw [e3, Inv.qB7 (by decide)]; exact c3, by rw [e9, Inv.qB7 (by decide)]; exact c9, by rw [e10]; exact c10, by rw [e11]; exact c11, fun hb => by rw [e2] at hb; obtain ⟨g, q1, q2⟩ := g2 hb; exact ⟨g, (Inv.qB7 (by decide)).trans q1, q2⟩, fun hb => by rw [e8] at hb; obtain ⟨g, q1, q2⟩ := g8 hb; exact ⟨g, (Inv.qB7 (by decide)).trans q1, q2⟩⟩
  ·-- operation 6
   have hnot : l.getD 6 false = false := Inv.qD4 (by rw [h.sz]; decide) hi2
   have hsz6 : 6 < l.size := by rw [h.sz]; decide
   have e2 := Inv.bo hsz6 2
   have e3 := Inv.bo hsz6 3
   have e8 := Inv.bo hsz6 8
   have e9 := Inv.bo hsz6 9
   have e10 := Inv.bo hsz6 10
   have e11 := Inv.bo hsz6 11
   have h2 := h.t2; simp only [Act.eval, Array.getD_eq_getD_getElem?] at h2
   refine Inv.qDW (i := 6) rfl rfl (Inv.qEB (v := .int .i64 y.f1) (w' := w) (by go_simp) ?_)
   show PI base bo bv gX K x y w0 L V vo vv (l.setIfInBounds 6 true) (a.put (some 14) (.int .i64 y.f1)) (w)
   refine h.nx ?_ ?_ ?_ ?_ ?_ ?_ ?_ ?_ ?_
   ·intro hb; rw [e10] at hb; exact ⟨Inv.qBF hsz6 (h.i10 hb).1, Inv.qBF hsz6 (h.i10 hb).2⟩
   ·intro hb; rw [e11] at hb; exact ⟨Inv.qBF hsz6 (h.i11 hb).1, Inv.qBF hsz6 (h.i11 hb).2⟩
   ·exact h.s0.other hsz6 (by decide) (by decide)
   ·exact h.s1.other hsz6 (by decide) (by decide)
   ·exact h.s4.other hsz6 (by decide) (by decide)
   ·exact h.s5.other hsz6 (by decide) (by decide)
   ·exact Inv.Slot.same (by rw [h.tz]; decide)
   ·exact h.s7.other hsz6 (by decide) (by decide)
   ·exact ⟨L1, V1, vo1, vv1, co, cv, hp, by rw [e3, Inv.qB7 (by decide)]; exact c3, by rw [e9, Inv.qB7 (by decide)]; exact c9, by rw [e10]; exact c10, by rw [e11]; exact c11, fun hb => by rw [e2] at hb; obtain ⟨g, q1, q2⟩ := g2 hb; exact ⟨g, (Inv.qB7 (by decide)).trans q1, q2⟩, fun hb => by rw [e8] at hb; obtain ⟨g, q1, q2⟩ := g8 hb; exact ⟨g, (Inv.qB7 (by decide)).trans q1, q2⟩⟩
  ·-- operation 7
   have hnot : l.getD 7 false = false := Inv.qD4 (by rw [h.sz]; decide) hi2
   obtain ⟨hd5, hd6⟩ : l.getD 5 false = true ∧ l.getD 6 false = true := by have h_ := hi3; simp [Region.binds] at h_; simp [h_]
   have hsz7 : 7 < l.size := by rw [h.sz]; decide
   have e2 := Inv.bo hsz7 2
   have e3 := Inv.bo hsz7 3
   have e8 := Inv.bo hsz7 8
   have e9 := Inv.bo hsz7 9
   have e10 := Inv.bo hsz7 10
   have e11 := Inv.bo hsz7 11
   have h13 := h.s5 hd5; simp only [Act.eval, Array.getD_eq_getD_getElem?] at h13
   have h14 := h.s6 hd6; simp only [Act.eval, Array.getD_eq_getD_getElem?] at h14
   refine Inv.qDW (i := 7) rfl rfl (Inv.qEB (v := .agg #[.int .i64 y.f0, .int .i64 y.f1]) (w' := w) (by go_simp) ?_)
   show PI base bo bv gX K x y w0 L V vo vv (l.setIfInBounds 7 true) (a.put (some 15) (.agg #[.int .i64 y.f0, .int .i64 y.f1])) (w)
   refine h.nx ?_ ?_ ?_ ?_ ?_ ?_ ?_ ?_ ?_
   ·intro hb; rw [e10] at hb; exact ⟨Inv.qBF hsz7 (h.i10 hb).1, Inv.qBF hsz7 (h.i10 hb).2⟩
   ·intro hb; rw [e11] at hb; exact ⟨Inv.qBF hsz7 (h.i11 hb).1, Inv.qBF hsz7 (h.i11 hb).2⟩
   ·exact h.s0.other hsz7 (by decide) (by decide)
   ·exact h.s1.other hsz7 (by decide) (by decide)
   ·exact h.s4.other hsz7 (by decide) (by decide)
   ·exact h.s5.other hsz7 (by decide) (by decide)
   ·exact h.s6.other hsz7 (by decide) (by decide)
   ·exact Inv.Slot.same (by rw [h.tz]; decide)
   ·exact ⟨L1, V1, vo1, vv1, co, cv, hp, by rw [e3, Inv.qB7 (by decide)]; exact c3, by rw [e9, Inv.qB7 (by decide)]; exact c9, by rw [e10]; exact c10, by rw [e11]; exact c11, fun hb => by rw [e2] at hb; obtain ⟨g, q1, q2⟩ := g2 hb; exact ⟨g, (Inv.qB7 (by decide)).trans q1, q2⟩, fun hb => by rw [e8] at hb; obtain ⟨g, q1, q2⟩ := g8 hb; exact ⟨g, (Inv.qB7 (by decide)).trans q1, q2⟩⟩
  ·-- operation 8
   have hnot : l.getD 8 false = false := Inv.qD4 (by rw [h.sz]; decide) hi2
   have hd7 : l.getD 7 false = true := by simpa [Region.binds] using hi3
   have hsz8 : 8 < l.size := by rw [h.sz]; decide
   have e2 := Inv.bo hsz8 2
   have e3 := Inv.bo hsz8 3
   have e8 : (l.setIfInBounds 8 true).getD 8 false = true := by rw [Inv.qEW hsz8, if_pos rfl]
   have e9 := Inv.bo hsz8 9
   have e10 := Inv.bo hsz8 10
   have e11 := Inv.bo hsz8 11
   have h15 := h.s7 hd7; simp only [Act.eval, Array.getD_eq_getD_getElem?] at h15
   refine Inv.qDW (i := 8) rfl rfl (Inv.qEB (v := .slice (some ⟨w.heap.size, 0, none⟩) 1 1) (w' := w.alloc (.cells #[.int .i64 y.f0, .int .i64 y.f1] 32)) (by go_simp) ?_)
   show PI base bo bv gX K x y w0 L V vo vv (l.setIfInBounds 8 true) (a.put (some 16) (.slice (some ⟨w.heap.size, 0, none⟩) 1 1)) (w.alloc (.cells #[.int .i64 y.f0, .int .i64 y.f1] 32))
   refine h.nx ?_ ?_ ?_ ?_ ?_ ?_ ?_ ?_ ?_
   ·intro hb; rw [e10] at hb; exact ⟨Inv.qBF hsz8 (h.i10 hb).1, Inv.qBF hsz8 (h.i10 hb).2⟩
   ·intro hb; rw [e11] at hb; exact ⟨Inv.qBF hsz8 (h.i11 hb).1, Inv.qBF hsz8 (h.i11 hb).2⟩
   ·exact h.s0.other hsz8 (by decide) (by decide)
   ·exact h.s1.other hsz8 (by decide) (by decide)
   ·exact h.s4.other hsz8 (by decide) (by decide)
   ·exact h.s5.other hsz8 (by decide) (by decide)
   ·exact h.s6.other hsz8 (by decide) (by decide)
   ·exact h.s7.other hsz8 (by decide) (by decide)
   ·exact ⟨L1, V1, vo1, vv1, co, cv, hp.alloc _, by rw [e3, Inv.qB7 (by decide)]; exact c3, by rw [e9, Inv.qB7 (by decide)]; exact c9, by rw [e10]; exact c10, by rw [e11]; exact c11, fun hb => by rw [e2] at hb; obtain ⟨g, q1, q2, q3⟩ := g2 hb; exact ⟨g, (Inv.qB7 (by decide)).trans q1, qD3 q2 _, q3⟩, fun _ => ⟨w.heap.size, Inv.put_same (by rw [h.tz]; decide), heap_alloc_new _ _, fun e => Nat.lt_irrefl _ (e ▸ qD0 hp.hbo), fun e => Nat.lt_irrefl _ (e ▸ qD0 hp.hbv), own_far hp.ro, own_far hp.rv⟩⟩
  ·-- operation 9
   have hnot : l.getD 9 false = false := Inv.qD4 (by rw [h.sz]; decide) hi2
   obtain ⟨hd3, hd4, hd8⟩ : l.getD 3 false = true ∧ l.getD 4 false = true ∧ l.getD 8 false = true := by have h_ := hi3; simp [Region.binds] at h_; simp [h_]
   have hsz9 : 9 < l.size := by rw [h.sz]; decide
   have e2 := Inv.bo hsz9 2
   have e3 := Inv.bo hsz9 3
   have e8 := Inv.bo hsz9 8
   have e9 : (l.setIfInBounds 9 true).getD 9 false = true := by rw [Inv.qEW hsz9, if_pos rfl]
   have e10 := Inv.bo hsz9 10
   have e11 := Inv.bo hsz9 11
   rw [hnot, if_neg Bool.false_ne_true] at c9
   obtain ⟨rfl, rfl⟩ : V = V1 ∧ vv = vv1 := ⟨c9.1.symm, c9.2.symm⟩
   have h11 : l.getD 11 false = false := Bool.eq_false_iff.2 fun hb => by have := (h.i11 hb).2; rw [hnot] at this; cases this
   have h12 := h.s4 hd4
   obtain ⟨g, q1, q2, q3, q4, q5, q6⟩ := g8 hd8
   obtain ⟨u1, w1, hrun, hown, hgr, hob⟩ := app32 w base vv V hp.rv g y q2 hp.hbase hv
   have hne : ∀ g, g < w.heap.size → vv.ownBlock ≠ some g → u1.ownBlock ≠ some g := fun g hg1 hg2 e => by
    rcases hob with ho | ho
    ·exact hg2 (ho ▸ e)
    ·rw [ho] at e; injection e with e; omega
   refine Inv.qDW (i := 9) rfl rfl (Inv.qEB (v := u1) (w' := w1) (app_run (.tmp 12) (.tmp 16) 35 rfl rfl _ _ h12 q1 hrun) ?_)
   show PI base bo bv gX K x y w0 L V vo vv (l.setIfInBounds 9 true) (a.put (some 17) (u1)) (w1)
   refine h.nx ?_ ?_ ?_ ?_ ?_ ?_ ?_ ?_ ?_
   ·intro hb; rw [e10] at hb; exact ⟨Inv.qBF hsz9 (h.i10 hb).1, Inv.qBF hsz9 (h.i10 hb).2⟩
   ·intro hb; rw [e11] at hb; exact ⟨Inv.qBF hsz9 (h.i11 hb).1, Inv.qBF hsz9 (h.i11 hb).2⟩
   ·exact h.s0.other hsz9 (by decide) (by decide)
   ·exact h.s1.other hsz9 (by decide) (by decide)
   ·exact h.s4.other hsz9 (by decide) (by decide)
   ·exact h.s5.other hsz9 (by decide) (by decide)
   ·exact h.s6.other hsz9 (by decide) (by decide)
   ·exact h.s7.other hsz9 (by decide) (by decide)
   ·exact ⟨L1, V ++ [y], vo1, u1, co, cv, hp.put32 hown hgr hob, by rw [e3, Inv.qB7 (by decide)]; exact c3, by rw [e9]; exact ⟨rfl, Inv.put_same (by rw [h.tz]; decide)⟩, by rw [e10]; exact c10, by rw [e11, h11]; rw [h11] at c11; exact c11, fun hb => by rw [e2] at hb; obtain ⟨g', p1, p2, p3, p4, p5, p6⟩ := g2 hb; exact ⟨g', (Inv.qB7 (by decide)).trans p1, qAN p2 hgr (fun e => p6 e.symm), p3, p4, p5, hne g' (qD0 p2) p6⟩, fun hb => ⟨g, (Inv.qB7 (by decide)).trans q1, qAN q2 hgr (fun e => q6 e.symm), q3, q4, q5, hne g (qD0 q2) q6⟩⟩
  ·-- operation 10
   have hnot : l.getD 10 false = false := Inv.qD4 (by rw [h.sz]; decide) hi2
   obtain ⟨hd0, hd1, hd2, hd3, hd9⟩ : l.getD 0 false = true ∧ l.getD 1 false = true ∧ l.getD 2 false = true ∧ l.getD 3 false = true ∧ l.getD 9 false = true := by have h_ := hi3; simp [Region.binds] at h_; simp [h_]
   have hsz10 : 10 < l.size := by rw [h.sz]; decide
   have e2 := Inv.bo hsz10 2
   have e3 := Inv.bo hsz10 3
   have e8 := Inv.bo hsz10 8
   have e9 := Inv.bo hsz10 9
   have e10 : (l.setIfInBounds 10 true).getD 10 false = true := by rw [Inv.qEW hsz10, if_pos rfl]
   have e11 := Inv.bo hsz10 11
   rw [hd3, if_pos rfl] at c3
   have h11 := c3.2
   refine Inv.qDW (i := 10) rfl rfl (Inv.skip_step (w' := w.setCell ⟨bo, 0, none⟩ vo1) (by have hcs : vo1.cells.toList = [vo1] := (by rcases hp.ro.2 with ⟨h_, _⟩ | ⟨_, _, _, h_, _⟩ <;> rw [h_] <;> rfl); have hone : ∀ q ∈ [vo1], q.oneCell' = true := (by intro q hq; rw [List.mem_singleton] at hq; subst hq; rcases hp.ro.2 with ⟨h_, _⟩ | ⟨_, _, _, h_, _⟩ <;> rw [h_] <;> rfl); have hr_ := run_store_run (P := Try.prog) (o := 0) 28 vo1 [vo1] hp.hbo hcs (by kernel_rfl) (by simp) hone; exact store_run (.tmp 3) (.tmp 11) 28 rfl _ _ h.t3 h11 hr_) ?_)
   show PI base bo bv gX K x y w0 L V vo vv (l.setIfInBounds 10 true) (a.put none undef) (w.setCell ⟨bo, 0, none⟩ vo1)
   refine { sz := by simpa using h.sz, tz := by simpa [Act.put] using h.tz, df := h.df, t1 := rfl.trans h.t1, t2 := rfl.trans h.t2, t3 := rfl.trans h.t3, t4 := rfl.trans h.t4, t5 := rfl.trans h.t5, i10 := ?_, i11 := ?_, s0 := ?_, s1 := ?_, s4 := ?_, s5 := ?_, s6 := ?_, s7 := ?_, W := ?_ }
   ·exact fun _ => ⟨Inv.qBF hsz10 hd0, Inv.qBF hsz10 hd3⟩
   ·intro hb; rw [e11] at hb; exact ⟨Inv.qBF hsz10 (h.i11 hb).1, Inv.qBF hsz10 (h.i11 hb).2⟩
   ·exact h.s0.still hsz10 (by decide)
   ·exact h.s1.still hsz10 (by decide)
   ·exact h.s4.still hsz10 (by decide)
   ·exact h.s5.still hsz10 (by decide)
   ·exact h.s6.still hsz10 (by decide)
   ·exact h.s7.still hsz10 (by decide)
   ·exact ⟨L1, V1, vo1, vv1, vo1, cv, hp.set28 lo ne nX vo1, by rw [e3, hd3, if_pos rfl]; exact c3, by rw [e9]; exact c9, by rw [e10]; rfl, by rw [e11]; exact c11, fun hb => by rw [e2] at hb; obtain ⟨g, q1, q2, q3, q4, q5⟩ := g2 hb; exact ⟨g, q1, qF9 q2 q3 _, q3, q4, q5⟩, fun hb => by rw [e8] at hb; obtain ⟨g, q1, q2, q3, q4, q5⟩ := g8 hb; exact ⟨g, q1, qF9 q2 q3 _, q3, q4, q5⟩⟩
  ·-- operation 11
   have hnot : l.getD 11 false = false := Inv.qD4 (by rw [h.sz]; decide) hi2
   obtain ⟨hd0, hd1, hd2, hd3, hd4, hd5, hd6, hd7, hd8, hd9, hd10⟩ : l.getD 0 false = true ∧ l.getD 1 false = true ∧ l.getD 2 false = true ∧ l.getD 3 false = true ∧ l.getD 4 false = true ∧ l.getD 5 false = true ∧ l.getD 6 false = true ∧ l.getD 7 false = true ∧ l.getD 8 false = true ∧ l.getD 9 false = true ∧ l.getD 10 false = true := by have h_ := hi3; simp [Region.binds] at h_; simp [h_]
   have hsz11 : 11 < l.size := by rw [h.sz]; decide
   have e2 := Inv.bo hsz11 2
   have e3 := Inv.bo hsz11 3
   have e8 := Inv.bo hsz11 8
   have e9 := Inv.bo hsz11 9
   have e10 := Inv.bo hsz11 10
   have e11 : (l.setIfInBounds 11 true).getD 11 false = true := by rw [Inv.qEW hsz11, if_pos rfl]
   rw [hd9, if_pos rfl] at c9
   have h17 := c9.2
   refine Inv.qDW (i := 11) rfl rfl (Inv.skip_step (w' := w.setCell ⟨bv, 0, none⟩ vv1) (by have hcs : vv1.cells.toList = [vv1] := (by rcases hp.rv.2 with ⟨h_, _⟩ | ⟨_, _, _, h_, _⟩ <;> rw [h_] <;> rfl); have hone : ∀ q ∈ [vv1], q.oneCell' = true := (by intro q hq; rw [List.mem_singleton] at hq; subst hq; rcases hp.rv.2 with ⟨h_, _⟩ | ⟨_, _, _, h_, _⟩ <;> rw [h_] <;> rfl); have hr_ := run_store_run (P := Try.prog) (o := 0) 35 vv1 [vv1] hp.hbv hcs (by kernel_rfl) (by simp) hone; exact store_run (.tmp 4) (.tmp 17) 35 rfl _ _ h.t4 h17 hr_) ?_)
   show PI base bo bv gX K x y w0 L V vo vv (l.setIfInBounds 11 true) (a.put none undef) (w.setCell ⟨bv, 0, none⟩ vv1)
   refine { sz := by simpa using h.sz, tz := by simpa [Act.put] using h.tz, df := h.df, t1 := rfl.trans h.t1, t2 := rfl.trans h.t2, t3 := rfl.trans h.t3, t4 := rfl.trans h.t4, t5 := rfl.trans h.t5, i10 := ?_, i11 := ?_, s0 := ?_, s1 := ?_, s4 := ?_, s5 := ?_, s6 := ?_, s7 := ?_, W := ?_ }
   ·intro hb; rw [e10] at hb; exact ⟨Inv.qBF hsz11 (h.i10 hb).1, Inv.qBF hsz11 (h.i10 hb).2⟩
   ·exact fun _ => ⟨Inv.qBF hsz11 hd4, Inv.qBF hsz11 hd9⟩
   ·exact h.s0.still hsz11 (by decide)
   ·exact h.s1.still hsz11 (by decide)
   ·exact h.s4.still hsz11 (by decide)
   ·exact h.s5.still hsz11 (by decide)
   ·exact h.s6.still hsz11 (by decide)
   ·exact h.s7.still hsz11 (by decide)
   ·exact ⟨L1, V1, vo1, vv1, co, vv1, hp.set35 lv ne nXv vv1, by rw [e3]; exact c3, by rw [e9, hd9, if_pos rfl]; exact c9, by rw [e10]; exact c10, by rw [e11]; rfl, fun hb => by rw [e2] at hb; obtain ⟨g, q1, q2, q3, q4, q5⟩ := g2 hb; exact ⟨g, q1, qF9 q2 q4 _, q3, q4, q5⟩, fun hb => by rw [e8] at hb; obtain ⟨g, q1, q2, q3, q4, q5⟩ := g8 hb; exact ⟨g, q1, qF9 q2 q4 _, q3, q4, q5⟩⟩
def qEP (a : S48) (t : S69) (i : Nat) (s : S76) : List (S25 × S32) := [(⟨a.f0, t.f0, 2, (i : Int)⟩, ⟨t.f1, s.f0⟩), (⟨a.f0, t.f0, 3, (i : Int)⟩, ⟨if t.f3 = true then 6 else t.f2, s.f1⟩)]
def qE3 (a : S48) (x : S54) (part : Int) (i : Nat) (n : S80) : List (S25 × S32) := if n.f0 ≠ 0 ∨ n.f2 = 1 then [] else [(⟨a.f0, x.f0, part, (i : Int)⟩, ⟨n.f2, n.f3⟩)]
def upto {β : Type} (f : Nat → List β) (n : Nat) : List β := (List.range n).flatMap f
def qCD (a : S48) (t : S69) : List (S25 × S32) := upto (fun i => qEP a t i (t.f4.getD i z76)) t.f4.length
def qEE (a : S48) (x : S54) (part : Int) (e : List S80) : List (S25 × S32) := upto (fun i => qE3 a x part i (e.getD i z80)) e.length
def artP (a : S48) (x : S54) : List (S25 × S32) := qEE a x 0 x.f2 ++ qEE a x 1 x.f3
def actP (a : S48) : List (S25 × S32) := a.f4.flatMap (qCD a) ++ a.f5.flatMap (artP a)
def qC8 (b : List S48) : List (S25 × S32) := b.flatMap actP
def qC0.f (l0 : List S48) : Option (List S25 × List S32) := if (qC8 l0).length * 48 ≤ 140737488355328 then some ((qC8 l0).map (·.1), (qC8 l0).map (·.2)) else none
def PQ (base : Nat) (W : World) (bo bv : Nat) (K : List (Nat × Obj)) (P : List (S25 × S32)) : Prop := PM base W bo bv K (P.map (·.1)) (P.map (·.2))
abbrev PR (w W : World) (K : List (Nat × Obj)) (P : List (S25 × S32)) : Prop := PQ w.heap.size W w.heap.size (w.heap.size + 1) K P
abbrev b48 (b : World) (y : S48) (A B C : Option Addr) (i j k : Nat) : Nat × Obj := (b.heap.size, .cells #[.string y.f0, .int .i64 y.f1, .int .i64 y.f2, .slice A y.f3.length i, .slice B y.f4.length j, .slice C y.f5.length k] 48 (0, 0))
abbrev b69 (b : World) (t : S69) (A : Option Addr) (i : Nat) : Nat × Obj := (b.heap.size, .cells #[.string t.f0, .int .i64 t.f1, .int .i64 t.f2, .bool t.f3, .slice A t.f4.length i] 69 (0, 0))
abbrev b76 (b : World) (s : S76) : Nat × Obj := (b.heap.size, .cells #[.int .i64 s.f0, .int .i64 s.f1] 76 (0, 0))
abbrev b54 (b : World) (x : S54) (A B C : Option Addr) (i j k : Nat) : Nat × Obj := (b.heap.size, .cells #[.string x.f0, .string x.f1, .slice A x.f2.length i, .slice B x.f3.length j, .slice C x.f4.length k, .int .i64 x.f5] 54 (0, 0))
abbrev b80 (b : World) (n : S80) (A : Option Addr) (i : Nat) : Nat × Obj := (b.heap.size, .cells #[.int .i64 n.f0, .slice A n.f1.length i, .int .i64 n.f2, .int .i64 n.f3, .string n.f4] 80 (0, 0))
abbrev bE (b : World) (x : S54) (A B : Option Addr) (i j : Nat) : Nat × Obj := (b.heap.size, .cells #[.slice A x.f2.length i, .slice B x.f3.length j] 52 (0, 0))
theorem PM.start (W : World) : PM W.heap.size ((W.alloc (.cells #[.slice none 0 0] 28)).alloc (.cells #[.slice none 0 0] 35)) W.heap.size (W.heap.size + 1) [] [] [] := by
 have h1 := heap_alloc_new (W.alloc (.cells #[.slice none 0 0] 28)) (.cells #[.slice none 0 0] 35)
 rw [show (W.alloc (.cells #[.slice none 0 0] 28)).heap.size = W.heap.size + 1 from by simp] at h1
 exact ⟨Nat.le_refl _, Nat.le_succ _, by omega, .slice none 0 0, .slice none 0 0, qD3 (heap_alloc_new W _) _, h1, own_nil _ _ _ _, own_nil _ _ _ _, by simp [Value.ownBlock], by simp [Value.ownBlock], by simp [Value.ownBlock], by simp [Value.ownBlock], fun g hg => by simp [Value.ownBlock] at hg, fun p hp => by cases hp⟩
theorem PM.drew {base : Nat} {W : World} {bo bv : Nat} {K : List (Nat × Obj)} {L : List S25} {V : List S32} (h : PM base W bo bv K L V) : PM base W.drew bo bv K L V := by
 obtain ⟨lo, lv, ne, vo, vv, hbo, hbv, ho, hv_, n⟩ := h
 exact ⟨lo, lv, ne, vo, vv, hbo, hbv, ho, hv_, n⟩
theorem PM.drewN {base : Nat} {W : World} {bo bv : Nat} {K : List (Nat × Obj)} {L : List S25} {V : List S32} (h : PM base W bo bv K L V) (k : Nat) : PM base (W.drewN k) bo bv K L V := by
 obtain ⟨lo, lv, ne, vo, vv, hbo, hbv, ho, hv_, n⟩ := h
 exact ⟨lo, lv, ne, vo, vv, hbo, hbv, ho, hv_, n⟩
theorem PM.grow {base : Nat} {W W' : World} {bo bv : Nat} {K : List (Nat × Obj)} {L : List S25} {V : List S32} (h : PM base W bo bv K L V) (hb : Below W.heap.size W W') {b : Nat} {o : Obj} (hge : W.heap.size ≤ b) (hblk : W'.heap[b]? = some o) : PM base W' bo bv ((b, o) :: K) L V := by
 obtain ⟨lo, lv, ne, vo, vv, hbo, hbv, ho, hv_, n1, n2, n3, n4, n5, n6⟩ := h
 have hg := qB4 hb none
 have q1 := qD0 hbo
 have q2 := qD0 hbv
 refine ⟨lo, lv, ne, vo, vv, qA5 hbo hb, qA5 hbv hb, ho.kept hg (by cases vo.ownBlock <;> simp), hv_.kept hg (by cases vv.ownBlock <;> simp), n1, n2, n3, n4, n5, fun p hp => ?_⟩
 rcases List.mem_cons.1 hp with rfl | hp
 ·exact ⟨hblk, fun e => by dsimp only at e; omega, fun e => by dsimp only at e; omega, fun e => by have := own_lt ho _ e; dsimp only at this; omega, fun e => by have := own_lt hv_ _ e; dsimp only at this; omega⟩
 ·exact ⟨qA5 (n6 p hp).1 hb, (n6 p hp).2⟩
theorem PM.sub {base : Nat} {W : World} {bo bv : Nat} {K K' : List (Nat × Obj)} {L : List S25} {V : List S32} (h : PM base W bo bv K L V) (hs : ∀ p, p ∈ K' → p ∈ K) : PM base W bo bv K' L V := by
 obtain ⟨lo, lv, ne, vo, vv, hbo, hbv, ho, hv_, n1, n2, n3, n4, n5, n6⟩ := h
 exact ⟨lo, lv, ne, vo, vv, hbo, hbv, ho, hv_, n1, n2, n3, n4, n5, fun p hp => n6 p (hs p hp)⟩
theorem PM.at_ {base : Nat} {W : World} {bo bv : Nat} {K : List (Nat × Obj)} {L : List S25} {V : List S32} (h : PM base W bo bv K L V) {b : Nat} {o : Obj} (hm : (b, o) ∈ K) : W.heap[b]? = some o := by
 obtain ⟨lo, lv, ne, vo, vv, hbo, hbv, ho, hv_, n1, n2, n3, n4, n5, n6⟩ := h
 exact (n6 _ hm).1
theorem PM.bv_lt {base : Nat} {W : World} {bo bv : Nat} {K : List (Nat × Obj)} {L : List S25} {V : List S32} (h : PM base W bo bv K L V) : base ≤ W.heap.size := by
 obtain ⟨lo, lv, ne, vo, vv, hbo, hbv, ho, hv_, n⟩ := h
 exact Nat.le_trans lo (Nat.le_of_lt (qD0 hbo))
theorem qDD {β : Type} (f : Nat → List β) (n : Nat) : upto f (n + 1) = upto f n ++ f n := by simp [upto, List.range_succ]
theorem upto_le {β : Type} (f : Nat → List β) {q n : Nat} (h : q ≤ n) : (upto f q).length ≤ (upto f n).length := by
 induction h with
 | refl => exact Nat.le_refl _
 | step _ ih => rw [qDD, List.length_append]; omega
theorem upto_lt {β : Type} (f : Nat → List β) {q n : Nat} (h : q < n) : (upto f q).length + (f q).length ≤ (upto f n).length := by
 have := upto_le f (q := q + 1) (n := n) h
 rwa [qDD, List.length_append] at this
theorem qE4 {α β : Type} (f : α → List β) {l : List α} {k : Nat} (z : α) (h : k < l.length) : (l.take (k + 1)).flatMap f = (l.take k).flatMap f ++ f (l.getD k z) := by
 rw [List.take_add_one, List.getElem?_eq_getElem h, List.flatMap_append, List.getD_eq_getElem?_getD, List.getElem?_eq_getElem h]
 simp
theorem flat_lt {α β : Type} (f : α → List β) {l : List α} {k : Nat} (z : α) (h : k < l.length) : ((l.take k).flatMap f).length + (f (l.getD k z)).length ≤ (l.flatMap f).length := by
 have h1 := congrArg (fun x => (List.flatMap f x).length) (List.take_append_drop (k + 1) l)
 simp only [List.flatMap_append, List.length_append] at h1
 rw [qE4 f z h, List.length_append] at h1
 omega
theorem putP.walk (base bo bv : Nat) (K : List (Nat × Obj)) (P : List (S25 × S32)) (x : S25) (y : S32) (w0 W : World) (HM : PQ base W bo bv K P) (hB : Below base w0 W) (hl : (P.length + 1) * 48 ≤ 140737488355328) :
  Calls Try.prog 23 #[.agg #[.string x.f0, .string x.f1, .int .i64 x.f2, .int .i64 x.f3], .int .i64 y.f0, .int .i64 y.f1, .pointer (some ⟨bo, 0, none⟩), .pointer (some ⟨bv, 0, none⟩)] W fun e W' => e = .returned (.tuple #[]) ∧ PQ base W' bo bv K (P ++ [(x, y)]) ∧ Below base w0 W' := by
 refine (put.walk base bo bv K _ _ x y w0 W HM hB (PM.bv_lt HM) (by simpa using hl) (by simp; omega)).mono ?_
 rintro e W' ⟨he, hM, hb⟩
 exact ⟨he, by unfold PQ; simpa using hM, hb⟩
set_option maxHeartbeats 4000000 in
set_option maxRecDepth 100000 in
theorem qC0.walk (A0 : Option Addr) (c0 : Nat) (l0 : List (S48)) (r1 : List S25) (r2 : List S32) (w : World) (hr0 : Kd.C k48 w A0 l0.length l0) (hc0 : l0.length ≤ c0) (h : qC0.f l0 = some (r1, r2)) :
  Calls Try.prog 7 #[.slice A0 l0.length c0] w fun e w' => ∃ vo vv, e = .returned (.tuple #[vo, vv]) ∧ w'.ownsRow w.heap.size 25 4 vo r1.length (r1.flatMap enc25) ∧ w'.ownsRow w.heap.size 32 2 vv r2.length (r2.flatMap enc32) ∧ (∀ g, vo.ownBlock = some g → vv.ownBlock ≠ some g) ∧ Below w.heap.size w w' := by
 have hm := Kd.qEI hr0
 have HM : qA0 ((qC8 l0).length * 48 ≤ 140737488355328) := ⟨by unfold qC0.f at h; split at h; assumption; cases h⟩
 have HP0 : qA0 (PQ w.heap.size ((w.alloc (.cells #[.slice none 0 0] 28)).alloc (.cells #[.slice none 0 0] 35)) w.heap.size (w.heap.size + 1) [] (qC8 (l0.take 0))) := ⟨PM.start w⟩
 have HB0 : qA0 (Below w.heap.size w ((w.alloc (.cells #[.slice none 0 0] 28)).alloc (.cells #[.slice none 0 0] 35))) := ⟨qAG (qAG (Below.refl _ _) _) _⟩
 have HR := qA0.mk hr0
 clear hr0
 go_enter Try.func7, Try.ntmps7
 go_wp2_with fail
 go_loopw [23] (fun i wr => ∃ k : Nat, k ≤ l0.length ∧ i = .int .i64 k ∧ qA0 (PR w wr [] (qC8 (l0.take k))) ∧ qA0 (Below w.heap.size w wr)) (fun i _ => l0.length - (intOf i).toNat)
 case atStart => exact ⟨0, Nat.zero_le _, rfl, HP0, HB0⟩
 case round =>
  obtain ⟨k, hk, rfl, HP, HB⟩ := hrel
  clear HP0 HB0
  by_cases hlt : k < l0.length
  ·have hC := HR.out
   obtain ⟨ad, A3, c3, A4, c4, A5, c5, rfl, hx0, hx1, hx2, hx3, hx4, hx5, hl3, hi3, hl4, hi4, hl5, hi5⟩ := qEM hC (k : Int) (by omega) (by omega)
   have e_ : qA3 l0 (k : Int) = l0.getD k z48 := by simp [qA3]
   rw [e_] at hx0 hx1 hx2 hx3 hx4 hx5 hl3 hi3 hl4 hi4 hl5 hi5
   simp only [Int.toNat_natCast] at hx0 hx1 hx2 hx3 hx4 hx5
   clear e_
   generalize hy_ : l0.getD k z48 = y at *
   replace hx0 := qAH HB.out hx0
   replace hx1 := qAH HB.out hx1
   replace hx2 := qAH HB.out hx2
   replace hx3 := qAH HB.out hx3
   replace hx4 := qAH HB.out hx4
   replace hx5 := qAH HB.out hx5
   clear hC
   have HLy := qA0.mk (show (qC8 (l0.take k)).length + (actP y).length ≤ (qC8 l0).length by rw [← hy_]; exact flat_lt actP z48 hlt)
   go_wp2_with ((with_reducible refine qCB (t := 48) (p := 8) rfl ?_); refine qCY (t := 48) (p := 8) (g := wr.heap.size) (cur := #[.string ⟨#[]⟩, .int .i64 0, .int .i64 0, .slice none 0 0, .slice none 0 0, .slice none 0 0]) (e := 48) rfl rfl rfl rfl rfl (heap_alloc_new _ _) [.string y.f0, .int .i64 y.f1, .int .i64 y.f2, .slice A3 y.f3.length c3, .slice A4 y.f4.length c4, .slice A5 y.f5.length c5] rfl rfl rfl ?h1 ?_; (case h1 => intro q hq_; simp only [List.mem_cons, List.not_mem_nil, or_false] at hq_; rcases hq_ with rfl | rfl | rfl | rfl | rfl | rfl <;> rfl); intro w4 hblk hsame hB_; have hb_ := hB_ _ _ (qAG (Below.refl wr.heap.size wr) _) (Nat.le_refl _); have HPn : qA0 (PR w w4 [b48 wr y A3 A4 A5 c3 c4 c5] (qC8 (l0.take k))) := ⟨PM.grow HP.out hb_ (Nat.le_refl _) hblk⟩; have HBn := qA0.mk (qA1 HB.out hb_); clear hB_ hsame hblk hb_; have u0 : w4.cell? ⟨wr.heap.size, 0, none⟩ = some (.string y.f0) := (qA4 (PM.at_ HPn.out (List.mem_cons_self ..)) 0).trans rfl; have u4 : w4.cell? ⟨wr.heap.size, 4, none⟩ = some (.slice A4 y.f4.length c4) := (qA4 (PM.at_ HPn.out (List.mem_cons_self ..)) 4).trans rfl; have u5 : w4.cell? ⟨wr.heap.size, 5, none⟩ = some (.slice A5 y.f5.length c5) := (qA4 (PM.at_ HPn.out (List.mem_cons_self ..)) 5).trans rfl; clear hx0 hx1 hx2 hx3 hx4 hx5)
   have hm4 := Kd.qEI hi4
   have hm5 := Kd.qEI hi5
   obtain ⟨wo, hwo⟩ : ∃ v, v = wr := ⟨_, rfl⟩
   subst hwo
   go_loopw [30] (fun i wx => ∃ j : Nat, j ≤ y.f4.length ∧ i = .int .i64 j ∧ qA0 (PR w wx [b48 wo y A3 A4 A5 c3 c4 c5] (qC8 (l0.take k) ++ (y.f4.take j).flatMap (qCD y))) ∧ qA0 (Below w.heap.size w wx)) (fun i _ => y.f4.length - (intOf i).toNat)
   case atStart => exact ⟨0, Nat.zero_le _, rfl, ⟨by simpa using HPn.out⟩, HBn⟩
   case round =>
    clear HPn HBn HP HB u0 u4 u5
    obtain ⟨j, hj, rfl, HP, HB⟩ := hrel
    by_cases hjlt : j < y.f4.length
    ·obtain ⟨at_, B4, d4, rfl, ht0, ht1, ht2, ht3, ht4, hlt4, hit4⟩ := at_T69 hi4 (j : Int) (by omega) (by omega)
     have e_ : qAL y.f4 (j : Int) = y.f4.getD j z69 := by simp [qAL]
     rw [e_] at ht0 ht1 ht2 ht3 ht4 hlt4 hit4
     simp only [Int.toNat_natCast] at ht0 ht1 ht2 ht3 ht4
     clear e_
     generalize ht_ : y.f4.getD j z69 = t at *
     replace ht0 := qAH HB.out ht0
     replace ht1 := qAH HB.out ht1
     replace ht2 := qAH HB.out ht2
     replace ht3 := qAH HB.out ht3
     replace ht4 := qAH HB.out ht4
     have HLt := qA0.mk (show ((y.f4.take j).flatMap (qCD y)).length + (qCD y t).length ≤ (actP y).length by rw [← ht_]; have := flat_lt (qCD y) z69 hjlt; unfold actP; rw [List.length_append]; omega)
     go_wp2_with ((with_reducible refine qCB (t := 69) (p := 10) rfl ?_); refine qCY (t := 69) (p := 10) (g := wr.heap.size) (cur := #[.string ⟨#[]⟩, .int .i64 0, .int .i64 0, .bool false, .slice none 0 0]) (e := 69) rfl rfl rfl rfl rfl (heap_alloc_new _ _) [.string t.f0, .int .i64 t.f1, .int .i64 t.f2, .bool t.f3, .slice B4 t.f4.length d4] rfl rfl rfl ?h1 ?_; (case h1 => intro q hq_; simp only [List.mem_cons, List.not_mem_nil, or_false] at hq_; rcases hq_ with rfl | rfl | rfl | rfl | rfl <;> rfl); intro w5 hblk hsame hB_; have hb_ := hB_ _ _ (qAG (Below.refl wr.heap.size wr) _) (Nat.le_refl _); have HPn : qA0 (PR w w5 [b69 wr t B4 d4, b48 wo y A3 (some at_) A5 c3 c4 c5] (qC8 (l0.take k) ++ (y.f4.take j).flatMap (qCD y))) := ⟨PM.grow HP.out hb_ (Nat.le_refl _) hblk⟩; have HBn := qA0.mk (qA1 HB.out hb_); clear hB_ hsame hblk hb_; have v0 : w5.cell? ⟨wr.heap.size, 0, none⟩ = some (.string t.f0) := (qA4 (PM.at_ HPn.out (List.mem_cons_self ..)) 0).trans rfl; have v4 : w5.cell? ⟨wr.heap.size, 4, none⟩ = some (.slice B4 t.f4.length d4) := (qA4 (PM.at_ HPn.out (List.mem_cons_self ..)) 4).trans rfl; clear ht0 ht1 ht2 ht3 ht4)
     have hmt := Kd.qEI hit4
     obtain ⟨wt, hwt⟩ : ∃ v, v = wr := ⟨_, rfl⟩
     subst hwt
     go_loopw [37] (fun i wx => ∃ q : Nat, q ≤ t.f4.length ∧ i = .int .i64 q ∧ qA0 (PR w wx [b69 wt t B4 d4, b48 wo y A3 (some at_) A5 c3 c4 c5] (qC8 (l0.take k) ++ (y.f4.take j).flatMap (qCD y) ++ upto (fun i => qEP y t i (t.f4.getD i z76)) q)) ∧ qA0 (Below w.heap.size w wx)) (fun i _ => t.f4.length - (intOf i).toNat)
     case atStart => exact ⟨0, Nat.zero_le _, rfl, ⟨by simpa [upto] using HPn.out⟩, HBn⟩
     case round =>
      clear HPn HBn HP HB v0 v4
      obtain ⟨q, hq, rfl, HP, HB⟩ := hrel
      by_cases hqlt : q < t.f4.length
      ·obtain ⟨as_, rfl, hs0, hs1⟩ := at_T76 hit4 (q : Int) (by omega) (by omega)
       have e_ : qCK t.f4 (q : Int) = t.f4.getD q z76 := by simp [qCK]
       rw [e_] at hs0 hs1 
       simp only [Int.toNat_natCast] at hs0 hs1
       clear e_
       generalize hs_ : t.f4.getD q z76 = s at *
       replace hs0 := qAH HB.out hs0
       replace hs1 := qAH HB.out hs1
       have HLs := qA0.mk (show (qC8 (l0.take k) ++ (y.f4.take j).flatMap (qCD y) ++ upto (fun i => qEP y t i (t.f4.getD i z76)) q).length + 2 ≤ (qC8 l0).length by have h1 := HLy.out; have h2 := HLt.out; have h3 : (upto (fun i => qEP y t i (t.f4.getD i z76)) q).length + 2 ≤ (qCD y t).length := upto_lt (fun i => qEP y t i (t.f4.getD i z76)) hqlt; simp only [List.length_append] at h1 h2 h3 ⊢; omega)
       have HPn : qA0 (PR w (wr.alloc (.cells #[.int .i64 s.f0, .int .i64 s.f1] 76)) [b76 wr s, b69 wt t (some as_) d4, b48 wo y A3 (some at_) A5 c3 c4 c5] (qC8 (l0.take k) ++ (y.f4.take j).flatMap (qCD y) ++ upto (fun i => qEP y t i (t.f4.getD i z76)) q)) := ⟨PM.grow HP.out (qAG (Below.refl wr.heap.size wr) _) (Nat.le_refl _) (heap_alloc_new _ _)⟩
       have HBn := qA0.mk (qA1 HB.out (qAG (Below.refl wr.heap.size wr) (.cells #[.int .i64 s.f0, .int .i64 s.f1] 76)))
       have hk_ : (wr.alloc (.cells #[.int .i64 s.f0, .int .i64 s.f1] 76)).heap[wo.heap.size]? = some (.cells #[.string y.f0, .int .i64 y.f1, .int .i64 y.f2, .slice A3 y.f3.length c3, .slice (some at_) y.f4.length c4, .slice A5 y.f5.length c5] 48 (0, 0)) := PM.at_ HPn.out (by simp)
       have u0_ := (qA4 hk_ 0).trans rfl
       clear hk_
       have hk_ : (wr.alloc (.cells #[.int .i64 s.f0, .int .i64 s.f1] 76)).heap[wt.heap.size]? = some (.cells #[.string t.f0, .int .i64 t.f1, .int .i64 t.f2, .bool t.f3, .slice (some as_) t.f4.length d4] 69 (0, 0)) := PM.at_ HPn.out (by simp)
       have v0_ := (qA4 hk_ 0).trans rfl
       have v1_ := (qA4 hk_ 1).trans rfl
       have v2_ := (qA4 hk_ 2).trans rfl
       have v3_ := (qA4 hk_ 3).trans rfl
       clear hk_
       have hk_ : (wr.alloc (.cells #[.int .i64 s.f0, .int .i64 s.f1] 76)).heap[wr.heap.size]? = some (.cells #[.int .i64 s.f0, .int .i64 s.f1] 76 (0, 0)) := PM.at_ HPn.out (by simp)
       have r0_ := (qA4 hk_ 0).trans rfl
       have r1_ := (qA4 hk_ 1).trans rfl
       clear hk_ HP HB
       by_cases hsl : t.f3 = true
       ·rw [hsl] at v3_
        have HS := qA0.mk hsl
        clear hsl
        go_wp2_with fail
        refine (putP.walk w.heap.size w.heap.size (w.heap.size + 1) _ _ ⟨y.f0, t.f0, 2, (q : Int)⟩ ⟨t.f1, s.f0⟩ w _ HPn.out HBn.out ?hl).mono ?_
        case hl => have h1_ := HM.out; have h2_ := HLs.out; simp only [List.length_append, List.length_cons, List.length_nil] at h2_ ⊢; omega
        rintro e w7 ⟨rfl, HP_, HB_⟩
        have HP7 := qA0.mk HP_
        have HB7 := qA0.mk HB_
        clear HP_ HB_ HPn HBn u0_ v0_ v1_ v2_ v3_ r0_ r1_
        have hk_ : w7.heap[wo.heap.size]? = some (.cells #[.string y.f0, .int .i64 y.f1, .int .i64 y.f2, .slice A3 y.f3.length c3, .slice (some at_) y.f4.length c4, .slice A5 y.f5.length c5] 48 (0, 0)) := PM.at_ HP7.out (by simp)
        have u0_ := (qA4 hk_ 0).trans rfl
        clear hk_
        have hk_ : w7.heap[wt.heap.size]? = some (.cells #[.string t.f0, .int .i64 t.f1, .int .i64 t.f2, .bool t.f3, .slice (some as_) t.f4.length d4] 69 (0, 0)) := PM.at_ HP7.out (by simp)
        have v0_ := (qA4 hk_ 0).trans rfl
        clear hk_
        have hk_ : w7.heap[wr.heap.size]? = some (.cells #[.int .i64 s.f0, .int .i64 s.f1] 76 (0, 0)) := PM.at_ HP7.out (by simp)
        have r1_ := (qA4 hk_ 1).trans rfl
        clear hk_
        go_wp2_with fail
        refine (putP.walk w.heap.size w.heap.size (w.heap.size + 1) _ _ ⟨y.f0, t.f0, 3, (q : Int)⟩ ⟨6, s.f1⟩ w _ HP7.out HB7.out ?hl).mono ?_
        case hl => have h1_ := HM.out; have h2_ := HLs.out; simp only [List.length_append, List.length_cons, List.length_nil] at h2_ ⊢; omega
        rintro e w8 ⟨rfl, HP_, HB_⟩
        have HP8 := qA0.mk HP_
        have HB8 := qA0.mk HB_
        clear HP_ HB_ HP7 HB7 u0_ v0_ r1_
        have e_ : (qC8 (l0.take k) ++ (y.f4.take j).flatMap (qCD y) ++ upto (fun i => qEP y t i (t.f4.getD i z76)) (q + 1)) = (qC8 (l0.take k) ++ (y.f4.take j).flatMap (qCD y) ++ upto (fun i => qEP y t i (t.f4.getD i z76)) q) ++ [(⟨y.f0, t.f0, 2, (q : Int)⟩, ⟨t.f1, s.f0⟩)] ++ [(⟨y.f0, t.f0, 3, (q : Int)⟩, ⟨6, s.f1⟩)] := by rw [qDD, hs_]; have hsl := HS.out; simp [qEP, hsl]
        have HP9 : qA0 (PR w w8 [b69 wt t (some as_) d4, b48 wo y A3 (some at_) A5 c3 c4 c5] (qC8 (l0.take k) ++ (y.f4.take j).flatMap (qCD y) ++ upto (fun i => qEP y t i (t.f4.getD i z76)) (q + 1))) := ⟨by rw [e_]; exact PM.sub HP8.out (fun p hp => List.mem_cons_of_mem _ hp)⟩
        clear HP8
        go_wp2_with fail
        go_roundw
        case rel => exact ⟨q + 1, by omega, by first | rfl | (simp; done) | rw [Int.natCast_add]; rfl, HP9, HB8⟩
        case measure => show t.f4.length - ((q : Int) + 1).toNat < t.f4.length - (q : Int).toNat; omega
       replace hsl := Bool.eq_false_iff.2 hsl
       rw [hsl] at v3_
       have HS := qA0.mk hsl
       clear hsl
       go_wp2_with fail
       refine (putP.walk w.heap.size w.heap.size (w.heap.size + 1) _ _ ⟨y.f0, t.f0, 2, (q : Int)⟩ ⟨t.f1, s.f0⟩ w _ HPn.out HBn.out ?hl).mono ?_
       case hl => have h1_ := HM.out; have h2_ := HLs.out; simp only [List.length_append, List.length_cons, List.length_nil] at h2_ ⊢; omega
       rintro e w7 ⟨rfl, HP_, HB_⟩
       have HP7 := qA0.mk HP_
       have HB7 := qA0.mk HB_
       clear HP_ HB_ HPn HBn u0_ v0_ v1_ v2_ v3_ r0_ r1_
       have hk_ : w7.heap[wo.heap.size]? = some (.cells #[.string y.f0, .int .i64 y.f1, .int .i64 y.f2, .slice A3 y.f3.length c3, .slice (some at_) y.f4.length c4, .slice A5 y.f5.length c5] 48 (0, 0)) := PM.at_ HP7.out (by simp)
       have u0_ := (qA4 hk_ 0).trans rfl
       clear hk_
       have hk_ : w7.heap[wt.heap.size]? = some (.cells #[.string t.f0, .int .i64 t.f1, .int .i64 t.f2, .bool t.f3, .slice (some as_) t.f4.length d4] 69 (0, 0)) := PM.at_ HP7.out (by simp)
       have v0_ := (qA4 hk_ 0).trans rfl
       clear hk_
       have hk_ : w7.heap[wr.heap.size]? = some (.cells #[.int .i64 s.f0, .int .i64 s.f1] 76 (0, 0)) := PM.at_ HP7.out (by simp)
       have r1_ := (qA4 hk_ 1).trans rfl
       clear hk_
       go_wp2_with fail
       refine (putP.walk w.heap.size w.heap.size (w.heap.size + 1) _ _ ⟨y.f0, t.f0, 3, (q : Int)⟩ ⟨t.f2, s.f1⟩ w _ HP7.out HB7.out ?hl).mono ?_
       case hl => have h1_ := HM.out; have h2_ := HLs.out; simp only [List.length_append, List.length_cons, List.length_nil] at h2_ ⊢; omega
       rintro e w8 ⟨rfl, HP_, HB_⟩
       have HP8 := qA0.mk HP_
       have HB8 := qA0.mk HB_
       clear HP_ HB_ HP7 HB7 u0_ v0_ r1_
       have e_ : (qC8 (l0.take k) ++ (y.f4.take j).flatMap (qCD y) ++ upto (fun i => qEP y t i (t.f4.getD i z76)) (q + 1)) = (qC8 (l0.take k) ++ (y.f4.take j).flatMap (qCD y) ++ upto (fun i => qEP y t i (t.f4.getD i z76)) q) ++ [(⟨y.f0, t.f0, 2, (q : Int)⟩, ⟨t.f1, s.f0⟩)] ++ [(⟨y.f0, t.f0, 3, (q : Int)⟩, ⟨t.f2, s.f1⟩)] := by rw [qDD, hs_]; have hsl := HS.out; simp [qEP, hsl]
       have HP9 : qA0 (PR w w8 [b69 wt t (some as_) d4, b48 wo y A3 (some at_) A5 c3 c4 c5] (qC8 (l0.take k) ++ (y.f4.take j).flatMap (qCD y) ++ upto (fun i => qEP y t i (t.f4.getD i z76)) (q + 1))) := ⟨by rw [e_]; exact PM.sub HP8.out (fun p hp => List.mem_cons_of_mem _ hp)⟩
       clear HP8
       go_wp2_with fail
       go_roundw
       case rel => exact ⟨q + 1, by omega, by first | rfl | (simp; done) | rw [Int.natCast_add]; rfl, HP9, HB8⟩
       case measure => show t.f4.length - ((q : Int) + 1).toNat < t.f4.length - (q : Int).toNat; omega
      ·obtain rfl : q = t.f4.length := by omega
       have HP9 : qA0 (PR w wr [b48 wo y A3 (some at_) A5 c3 c4 c5] (qC8 (l0.take k) ++ (y.f4.take (j + 1)).flatMap (qCD y))) := ⟨by rw [qE4 (qCD y) z69 hjlt, ht_, ← List.append_assoc]; exact PM.sub HP.out (fun p hp => List.mem_cons_of_mem _ hp)⟩
       clear HP
       go_wp2_with fail
       go_roundw
       case rel => exact ⟨j + 1, by omega, by first | rfl | (simp; done) | rw [Int.natCast_add]; rfl, HP9, HB⟩
       case measure => show y.f4.length - ((j : Int) + 1).toNat < y.f4.length - (j : Int).toNat; omega
    ·obtain rfl : j = y.f4.length := by omega
     rw [List.take_length] at HP
     have hk_ : wr.heap[wo.heap.size]? = some (.cells #[.string y.f0, .int .i64 y.f1, .int .i64 y.f2, .slice A3 y.f3.length c3, .slice A4 y.f4.length c4, .slice A5 y.f5.length c5] 48 (0, 0)) := PM.at_ HP.out (by simp)
     have z0_ := (qA4 hk_ 0).trans rfl
     have z5_ := (qA4 hk_ 5).trans rfl
     clear hk_
     go_wp2_with fail
     clear z0_ z5_
     obtain ⟨wa, hwa⟩ : ∃ v, v = wr := ⟨_, rfl⟩
     subst hwa
     go_loopw [74] (fun i wx => ∃ m : Nat, m ≤ y.f5.length ∧ i = .int .i64 m ∧ qA0 (PR w wx [b48 wo y A3 A4 A5 c3 c4 c5] (qC8 (l0.take k) ++ y.f4.flatMap (qCD y) ++ (y.f5.take m).flatMap (artP y))) ∧ qA0 (Below w.heap.size w wx)) (fun i _ => y.f5.length - (intOf i).toNat)
     case atStart => exact ⟨0, Nat.zero_le _, rfl, ⟨by simpa using HP.out⟩, HB⟩
     case round =>
      clear HP HB
      obtain ⟨m, hm_, rfl, HP, HB⟩ := hrel
      by_cases hmlt : m < y.f5.length
      ·obtain ⟨ax_, B2, d2, B3, d3, B4, d4, rfl, hx0, hx1, hx2, hx3, hx4, hx5, hlx2, hix2, hlx3, hix3, hlx4, hix4⟩ := at_T54 hi5 (m : Int) (by omega) (by omega)
       have e_ : qAY y.f5 (m : Int) = y.f5.getD m z54 := by simp [qAY]
       rw [e_] at hx0 hx1 hx2 hx3 hx4 hx5 hlx2 hix2 hlx3 hix3 hlx4 hix4
       simp only [Int.toNat_natCast] at hx0 hx1 hx2 hx3 hx4 hx5
       clear e_
       generalize hx_ : y.f5.getD m z54 = x at *
       replace hx0 := qAH HB.out hx0
       replace hx1 := qAH HB.out hx1
       replace hx2 := qAH HB.out hx2
       replace hx3 := qAH HB.out hx3
       replace hx4 := qAH HB.out hx4
       replace hx5 := qAH HB.out hx5
       have HLx := qA0.mk (show (y.f4.flatMap (qCD y)).length + ((y.f5.take m).flatMap (artP y)).length + (artP y x).length ≤ (actP y).length by rw [← hx_]; have := flat_lt (artP y) z54 hmlt; unfold actP; rw [List.length_append]; omega)
       have hmx2 := Kd.qEI hix2
       have hmx3 := Kd.qEI hix3
       go_wp2_with ((with_reducible refine qCB (t := 54) (p := 15) rfl ?_); refine qCY (t := 54) (p := 15) (g := wr.heap.size) (cur := #[.string ⟨#[]⟩, .string ⟨#[]⟩, .slice none 0 0, .slice none 0 0, .slice none 0 0, .int .i64 0]) (e := 54) rfl rfl rfl rfl rfl (heap_alloc_new _ _) [.string x.f0, .string x.f1, .slice B2 x.f2.length d2, .slice B3 x.f3.length d3, .slice B4 x.f4.length d4, .int .i64 x.f5] rfl rfl rfl ?h1 ?_; (case h1 => intro q hq_; simp only [List.mem_cons, List.not_mem_nil, or_false] at hq_; rcases hq_ with rfl | rfl | rfl | rfl | rfl | rfl <;> rfl); intro w9 hblk hsame hB_; have hb_ := hB_ _ _ (qAG (Below.refl wr.heap.size wr) _) (Nat.le_refl _); have HPn : qA0 (PR w w9 [b54 wr x B2 B3 B4 d2 d3 d4, b48 wo y A3 A4 (some ax_) c3 c4 c5] (qC8 (l0.take k) ++ y.f4.flatMap (qCD y) ++ (y.f5.take m).flatMap (artP y))) := ⟨PM.grow HP.out hb_ (Nat.le_refl _) hblk⟩; have HBn := qA0.mk (qA1 HB.out hb_); clear hB_ hsame hblk hb_; have u2_ := (qA4 (PM.at_ HPn.out (List.mem_cons_self ..)) 2).trans rfl; have u3_ := (qA4 (PM.at_ HPn.out (List.mem_cons_self ..)) 3).trans rfl; clear hx0 hx1 hx2 hx3 hx4 hx5)
       obtain ⟨wx, hwx⟩ : ∃ v, v = wr := ⟨_, rfl⟩
       subst hwx
       have HPm : qA0 (PR w (w9.alloc (.cells #[.slice B2 x.f2.length d2, .slice B3 x.f3.length d3] 52)) [bE w9 x B2 B3 d2 d3, b54 wx x B2 B3 B4 d2 d3 d4, b48 wo y A3 A4 (some ax_) c3 c4 c5] (qC8 (l0.take k) ++ y.f4.flatMap (qCD y) ++ (y.f5.take m).flatMap (artP y))) := ⟨PM.grow HPn.out (qAG (Below.refl w9.heap.size w9) _) (Nat.le_refl _) (heap_alloc_new _ _)⟩
       have HBm := qA0.mk (qA1 HBn.out (qAG (Below.refl w9.heap.size w9) (.cells #[.slice B2 x.f2.length d2, .slice B3 x.f3.length d3] 52)))
       go_loopw [84] (fun i wv => ∃ p : Nat, p ≤ 2 ∧ i = .int .i64 p ∧ qA0 (PR w wv [bE w9 x B2 B3 d2 d3, b54 wx x B2 B3 B4 d2 d3 d4, b48 wo y A3 A4 (some ax_) c3 c4 c5] (qC8 (l0.take k) ++ y.f4.flatMap (qCD y) ++ (y.f5.take m).flatMap (artP y) ++ upto (fun p => qEE y x (p : Int) ([x.f2, x.f3].getD p [])) p)) ∧ qA0 (Below w.heap.size w wv)) (fun i _ => 2 - (intOf i).toNat)
       case atStart => exact ⟨0, Nat.zero_le _, rfl, ⟨by simpa [upto] using HPm.out⟩, HBm⟩
       case round =>
        clear HPn HBn HPm HBm HP HB u2_ u3_
        obtain ⟨p, hp_, rfl, HP, HB⟩ := hrel
        by_cases hplt : p < 2
        ·obtain ⟨AE, dE, E, hE, hEp, hlE, hcE⟩ : ∃ AE dE, ∃ E : List S80, wr.cell? ⟨w9.heap.size, p, none⟩ = some (.slice AE E.length dE) ∧ [x.f2, x.f3].getD p [] = E ∧ E.length ≤ dE ∧ Kd.C k80 w AE E.length E := by
          have hk_ := qA4 (PM.at_ HP.out (b := w9.heap.size) (o := Obj.cells #[.slice B2 x.f2.length d2, .slice B3 x.f3.length d3] 52 (0, 0)) (by simp)) p
          rcases (by omega : p = 0 ∨ p = 1) with rfl | rfl
          ·exact ⟨B2, d2, x.f2, hk_.trans rfl, rfl, hlx2, hix2⟩
          ·exact ⟨B3, d3, x.f3, hk_.trans rfl, rfl, hlx3, hix3⟩
         have hmE := Kd.qEI hcE
         have hpm : (p : Int) < 2 := by omega
         go_wp2_with fail
         obtain ⟨wp, hwp⟩ : ∃ v, v = wr := ⟨_, rfl⟩
         subst hwp
         go_loopw [91] (fun i wv => ∃ r : Nat, r ≤ E.length ∧ i = .int .i64 r ∧ qA0 (PR w wv [bE w9 x B2 B3 d2 d3, b54 wx x B2 B3 B4 d2 d3 d4, b48 wo y A3 A4 (some ax_) c3 c4 c5] (qC8 (l0.take k) ++ y.f4.flatMap (qCD y) ++ (y.f5.take m).flatMap (artP y) ++ upto (fun p => qEE y x (p : Int) ([x.f2, x.f3].getD p [])) p ++ upto (fun i => qE3 y x (p : Int) i (E.getD i z80)) r)) ∧ qA0 (Below w.heap.size w wv)) (fun i _ => E.length - (intOf i).toNat)
         case atStart => exact ⟨0, Nat.zero_le _, rfl, ⟨by simpa [upto] using HP.out⟩, HB⟩
         case round =>
          clear HP HB hE
          obtain ⟨r, hr_, rfl, HP, HB⟩ := hrel
          by_cases hrlt : r < E.length
          ·obtain ⟨ae_, Ak, e1, rfl, hn0, hn1, hn2, hn3, hn4, hln1, hin1⟩ := at_T80 hcE (r : Int) (by omega) (by omega)
           have e_ : qA2 E (r : Int) = E.getD r z80 := by simp [qA2]
           rw [e_] at hn0 hn1 hn2 hn3 hn4 hln1 hin1
           simp only [Int.toNat_natCast] at hn0 hn1 hn2 hn3 hn4
           clear e_
           generalize hn_ : E.getD r z80 = n at *
           replace hn0 := qAH HB.out hn0
           replace hn1 := qAH HB.out hn1
           replace hn2 := qAH HB.out hn2
           replace hn3 := qAH HB.out hn3
           replace hn4 := qAH HB.out hn4
           have HLn := qA0.mk (show (qC8 (l0.take k) ++ y.f4.flatMap (qCD y) ++ (y.f5.take m).flatMap (artP y) ++ upto (fun p => qEE y x (p : Int) ([x.f2, x.f3].getD p [])) p ++ upto (fun i => qE3 y x (p : Int) i (E.getD i z80)) r).length + (qE3 y x (p : Int) r n).length ≤ (qC8 l0).length by have h1 := HLy.out; have h2 := HLx.out; have h3 : (upto (fun i => qE3 y x (p : Int) i (E.getD i z80)) r).length + (qE3 y x (p : Int) r n).length ≤ (qEE y x (p : Int) E).length := (by rw [← hn_]; exact upto_lt (fun i => qE3 y x (p : Int) i (E.getD i z80)) hrlt); have h4 : (upto (fun p => qEE y x (p : Int) ([x.f2, x.f3].getD p [])) p).length + (qEE y x (p : Int) E).length ≤ (artP y x).length := (by rw [← hEp]; have h5 := upto_lt (fun p => qEE y x (p : Int) ([x.f2, x.f3].getD p [])) hplt; have h6 : (upto (fun p => qEE y x (p : Int) ([x.f2, x.f3].getD p [])) 2).length = (artP y x).length := (by simp [upto, List.range_succ, artP]); rw [← h6]; exact h5); simp only [List.length_append] at h1 h2 h3 h4 ⊢; omega)
           by_cases h0 : n.f0 = 0
           ·have h0b : (n.f0 == 0) = true := beq_iff_eq.2 h0
            by_cases h2 : n.f2 = 1
            ·have h2b : (n.f2 != 1) = false := by rw [h2]; rfl
             have HS : qA0 (n.f0 ≠ 0 ∨ n.f2 = 1) := ⟨.inr h2⟩
             clear h0 h2
             go_wp2_with ((with_reducible refine qCB (t := 80) (p := 19) rfl ?_); refine qCY (t := 80) (p := 19) (g := wr.heap.size) (cur := #[.int .i64 0, .slice none 0 0, .int .i64 0, .int .i64 0, .string ⟨#[]⟩]) (e := 80) rfl rfl rfl rfl rfl (heap_alloc_new _ _) [.int .i64 n.f0, .slice Ak n.f1.length e1, .int .i64 n.f2, .int .i64 n.f3, .string n.f4] rfl rfl rfl ?h1 ?_; (case h1 => intro q hq_; simp only [List.mem_cons, List.not_mem_nil, or_false] at hq_; rcases hq_ with rfl | rfl | rfl | rfl | rfl <;> rfl); intro w11 hblk hsame hB_; have hb_ := hB_ _ _ (qAG (Below.refl wr.heap.size wr) _) (Nat.le_refl _); have HPn : qA0 (PR w w11 [b80 wr n Ak e1, bE w9 x B2 B3 d2 d3, b54 wx x B2 B3 B4 d2 d3 d4, b48 wo y A3 A4 (some ax_) c3 c4 c5] (qC8 (l0.take k) ++ y.f4.flatMap (qCD y) ++ (y.f5.take m).flatMap (artP y) ++ upto (fun p => qEE y x (p : Int) ([x.f2, x.f3].getD p [])) p ++ upto (fun i => qE3 y x (p : Int) i (E.getD i z80)) r)) := ⟨PM.grow HP.out hb_ (Nat.le_refl _) hblk⟩; have HBn := qA0.mk (qA1 HB.out hb_); clear hB_ hsame hblk hb_; have u0_ := (qA4 (PM.at_ HPn.out (List.mem_cons_self ..)) 0).trans rfl; have u2_ := (qA4 (PM.at_ HPn.out (List.mem_cons_self ..)) 2).trans rfl; clear hn0 hn1 hn2 hn3 hn4)
             have HP9 : qA0 (PR w w11 [bE w9 x B2 B3 d2 d3, b54 wx x B2 B3 B4 d2 d3 d4, b48 wo y A3 A4 (some ax_) c3 c4 c5] (qC8 (l0.take k) ++ y.f4.flatMap (qCD y) ++ (y.f5.take m).flatMap (artP y) ++ upto (fun p => qEE y x (p : Int) ([x.f2, x.f3].getD p [])) p ++ upto (fun i => qE3 y x (p : Int) i (E.getD i z80)) (r + 1))) := ⟨by rw [qDD, hn_, show qE3 y x (p : Int) r n = [] from if_pos HS.out, List.append_nil]; exact PM.sub HPn.out (fun p hp => List.mem_cons_of_mem _ hp)⟩
             go_roundw
             case rel => exact ⟨r + 1, by omega, by first | rfl | (simp; done) | rw [Int.natCast_add]; rfl, HP9, HBn⟩
             case measure => show E.length - ((r : Int) + 1).toNat < E.length - (r : Int).toNat; omega
            ·have h2b : (n.f2 != 1) = true := bne_iff_ne.2 h2
             have HS : qA0 (¬(n.f0 ≠ 0 ∨ n.f2 = 1)) := ⟨fun e => e.elim (fun e => e h0) h2⟩
             clear h0 h2
             go_wp2_with ((with_reducible refine qCB (t := 80) (p := 19) rfl ?_); refine qCY (t := 80) (p := 19) (g := wr.heap.size) (cur := #[.int .i64 0, .slice none 0 0, .int .i64 0, .int .i64 0, .string ⟨#[]⟩]) (e := 80) rfl rfl rfl rfl rfl (heap_alloc_new _ _) [.int .i64 n.f0, .slice Ak n.f1.length e1, .int .i64 n.f2, .int .i64 n.f3, .string n.f4] rfl rfl rfl ?h1 ?_; (case h1 => intro q hq_; simp only [List.mem_cons, List.not_mem_nil, or_false] at hq_; rcases hq_ with rfl | rfl | rfl | rfl | rfl <;> rfl); intro w11 hblk hsame hB_; have hb_ := hB_ _ _ (qAG (Below.refl wr.heap.size wr) _) (Nat.le_refl _); have HPn : qA0 (PR w w11 [b80 wr n Ak e1, bE w9 x B2 B3 d2 d3, b54 wx x B2 B3 B4 d2 d3 d4, b48 wo y A3 A4 (some ax_) c3 c4 c5] (qC8 (l0.take k) ++ y.f4.flatMap (qCD y) ++ (y.f5.take m).flatMap (artP y) ++ upto (fun p => qEE y x (p : Int) ([x.f2, x.f3].getD p [])) p ++ upto (fun i => qE3 y x (p : Int) i (E.getD i z80)) r)) := ⟨PM.grow HP.out hb_ (Nat.le_refl _) hblk⟩; have HBn := qA0.mk (qA1 HB.out hb_); clear hB_ hsame hblk hb_; have u0_ := (qA4 (PM.at_ HPn.out (List.mem_cons_self ..)) 0).trans rfl; have u2_ := (qA4 (PM.at_ HPn.out (List.mem_cons_self ..)) 2).trans rfl; have y0_ := (qA4 (PM.at_ (b := wo.heap.size) (o := Obj.cells #[.string y.f0, .int .i64 y.f1, .int .i64 y.f2, .slice A3 y.f3.length c3, .slice A4 y.f4.length c4, .slice (some ax_) y.f5.length c5] 48 (0, 0)) HPn.out (by simp)) 0).trans rfl; have x0_ := (qA4 (PM.at_ (b := wx.heap.size) (o := Obj.cells #[.string x.f0, .string x.f1, .slice B2 x.f2.length d2, .slice B3 x.f3.length d3, .slice B4 x.f4.length d4, .int .i64 x.f5] 54 (0, 0)) HPn.out (by simp)) 0).trans rfl; have u3_ := (qA4 (PM.at_ HPn.out (List.mem_cons_self ..)) 3).trans rfl; clear hn0 hn1 hn2 hn3 hn4)
             refine (putP.walk w.heap.size w.heap.size (w.heap.size + 1) _ _ ⟨y.f0, x.f0, (p : Int), (r : Int)⟩ ⟨n.f2, n.f3⟩ w _ HPn.out HBn.out ?hl).mono ?_
             case hl => have h1_ := HM.out; have h2_ := HLn.out; have h3_ : (qE3 y x (p : Int) r n).length = 1 := (by unfold qE3; rw [if_neg HS.out]; rfl); simp only [List.length_append, List.length_cons, List.length_nil] at h2_ ⊢; omega
             rintro e w12 ⟨rfl, HP_, HB_⟩
             have HP12 := qA0.mk HP_
             have HB12 := qA0.mk HB_
             clear HP_ HB_ HPn HBn u0_ u2_ u3_ y0_ x0_
             have HP9 : qA0 (PR w w12 [bE w9 x B2 B3 d2 d3, b54 wx x B2 B3 B4 d2 d3 d4, b48 wo y A3 A4 (some ax_) c3 c4 c5] (qC8 (l0.take k) ++ y.f4.flatMap (qCD y) ++ (y.f5.take m).flatMap (artP y) ++ upto (fun p => qEE y x (p : Int) ([x.f2, x.f3].getD p [])) p ++ upto (fun i => qE3 y x (p : Int) i (E.getD i z80)) (r + 1))) := ⟨by rw [qDD, hn_, ← List.append_assoc, show qE3 y x (p : Int) r n = [(⟨y.f0, x.f0, (p : Int), (r : Int)⟩, ⟨n.f2, n.f3⟩)] from if_neg HS.out]; exact PM.sub HP12.out (fun p hp => List.mem_cons_of_mem _ hp)⟩
             clear HP12
             go_wp2_with fail
             go_roundw
             case rel => exact ⟨r + 1, by omega, by first | rfl | (simp; done) | rw [Int.natCast_add]; rfl, HP9, HB12⟩
             case measure => show E.length - ((r : Int) + 1).toNat < E.length - (r : Int).toNat; omega
           ·have h0b : (n.f0 == 0) = false := beq_eq_false_iff_ne.2 h0
            have HS : qA0 (n.f0 ≠ 0 ∨ n.f2 = 1) := ⟨.inl h0⟩
            clear h0
            go_wp2_with ((with_reducible refine qCB (t := 80) (p := 19) rfl ?_); refine qCY (t := 80) (p := 19) (g := wr.heap.size) (cur := #[.int .i64 0, .slice none 0 0, .int .i64 0, .int .i64 0, .string ⟨#[]⟩]) (e := 80) rfl rfl rfl rfl rfl (heap_alloc_new _ _) [.int .i64 n.f0, .slice Ak n.f1.length e1, .int .i64 n.f2, .int .i64 n.f3, .string n.f4] rfl rfl rfl ?h1 ?_; (case h1 => intro q hq_; simp only [List.mem_cons, List.not_mem_nil, or_false] at hq_; rcases hq_ with rfl | rfl | rfl | rfl | rfl <;> rfl); intro w11 hblk hsame hB_; have hb_ := hB_ _ _ (qAG (Below.refl wr.heap.size wr) _) (Nat.le_refl _); have HPn : qA0 (PR w w11 [b80 wr n Ak e1, bE w9 x B2 B3 d2 d3, b54 wx x B2 B3 B4 d2 d3 d4, b48 wo y A3 A4 (some ax_) c3 c4 c5] (qC8 (l0.take k) ++ y.f4.flatMap (qCD y) ++ (y.f5.take m).flatMap (artP y) ++ upto (fun p => qEE y x (p : Int) ([x.f2, x.f3].getD p [])) p ++ upto (fun i => qE3 y x (p : Int) i (E.getD i z80)) r)) := ⟨PM.grow HP.out hb_ (Nat.le_refl _) hblk⟩; have HBn := qA0.mk (qA1 HB.out hb_); clear hB_ hsame hblk hb_; have u0_ := (qA4 (PM.at_ HPn.out (List.mem_cons_self ..)) 0).trans rfl; have u2_ := (qA4 (PM.at_ HPn.out (List.mem_cons_self ..)) 2).trans rfl; clear hn0 hn1 hn2 hn3 hn4)
            have HP9 : qA0 (PR w w11 [bE w9 x B2 B3 d2 d3, b54 wx x B2 B3 B4 d2 d3 d4, b48 wo y A3 A4 (some ax_) c3 c4 c5] (qC8 (l0.take k) ++ y.f4.flatMap (qCD y) ++ (y.f5.take m).flatMap (artP y) ++ upto (fun p => qEE y x (p : Int) ([x.f2, x.f3].getD p [])) p ++ upto (fun i => qE3 y x (p : Int) i (E.getD i z80)) (r + 1))) := ⟨by rw [qDD, hn_, show qE3 y x (p : Int) r n = [] from if_pos HS.out, List.append_nil]; exact PM.sub HPn.out (fun p hp => List.mem_cons_of_mem _ hp)⟩
            go_roundw
            case rel => exact ⟨r + 1, by omega, by first | rfl | (simp; done) | rw [Int.natCast_add]; rfl, HP9, HBn⟩
            case measure => show E.length - ((r : Int) + 1).toNat < E.length - (r : Int).toNat; omega
          ·obtain rfl : r = E.length := by omega
           have HP9 : qA0 (PR w wr [bE w9 x B2 B3 d2 d3, b54 wx x B2 B3 B4 d2 d3 d4, b48 wo y A3 A4 (some ax_) c3 c4 c5] (qC8 (l0.take k) ++ y.f4.flatMap (qCD y) ++ (y.f5.take m).flatMap (artP y) ++ upto (fun p => qEE y x (p : Int) ([x.f2, x.f3].getD p [])) (p + 1))) := ⟨by rw [qDD, ← List.append_assoc]; rw [hEp]; exact HP.out⟩
           clear HP
           go_wp2_with fail
           go_roundw
           case rel => exact ⟨p + 1, by omega, by first | rfl | (simp; done) | rw [Int.natCast_add]; rfl, HP9, HB⟩
           case measure => show 2 - ((p : Int) + 1).toNat < 2 - (p : Int).toNat; omega
        ·obtain rfl : p = 2 := by omega
         have HP9 : qA0 (PR w wr [b48 wo y A3 A4 (some ax_) c3 c4 c5] (qC8 (l0.take k) ++ y.f4.flatMap (qCD y) ++ (y.f5.take (m + 1)).flatMap (artP y))) := ⟨by rw [qE4 (artP y) z54 hmlt, hx_, ← List.append_assoc, show artP y x = upto (fun p => qEE y x (p : Int) ([x.f2, x.f3].getD p [])) 2 from (by simp [upto, List.range_succ, artP])]; exact PM.sub HP.out (fun p hp => List.mem_cons_of_mem _ (List.mem_cons_of_mem _ hp))⟩
         clear HP
         go_wp2_with fail
         go_roundw
         case rel => exact ⟨m + 1, by omega, by first | rfl | (simp; done) | rw [Int.natCast_add]; rfl, HP9, HB⟩
         case measure => show y.f5.length - ((m : Int) + 1).toNat < y.f5.length - (m : Int).toNat; omega
      ·obtain rfl : m = y.f5.length := by omega
       have HP9 : qA0 (PR w wr [] (qC8 (l0.take (k + 1)))) := ⟨by unfold qC8; rw [qE4 actP z48 hlt, hy_]; unfold actP; rw [← List.append_assoc]; rw [List.take_length] at HP; exact PM.sub HP.out (fun p hp => by cases hp)⟩
       clear HP
       go_wp2_with fail
       go_roundw
       case rel => exact ⟨k + 1, by omega, by first | rfl | (simp; done) | rw [Int.natCast_add]; rfl, HP9, HB⟩
       case measure => show l0.length - ((k : Int) + 1).toNat < l0.length - (k : Int).toNat; omega
  ·obtain rfl : k = l0.length := by omega
   rw [List.take_length] at HP
   obtain ⟨lo, lv, ne, vo, vv, hbo, hbv, ho, hv_, n1, n2, n3, n4, n5, n6⟩ := HP.out
   have q1 : wr.cell? ⟨w.heap.size, 0, none⟩ = some vo := (qA4 hbo 0).trans rfl
   have q2 : wr.cell? ⟨w.heap.size + 1, 0, none⟩ = some vv := (qA4 hbv 0).trans rfl
   have hr : r1 = (qC8 l0).map (·.1) ∧ r2 = (qC8 l0).map (·.2) := by
    unfold qC0.f at h
    split at h
    ·injection h with h
     injection h with h1 h2
     exact ⟨h1.symm, h2.symm⟩
    ·cases h
   have HZ := qA0.mk (And.intro ho (And.intro hv_ (And.intro n5 hr)))
   clear HP hbo hbv ho hv_ n1 n2 n3 n4 n5 n6 hr lo lv ne h
   go_wp2_with fail
   repeat (go_quiet (fail); try go_wp2_with fail)
   go_ret2
   obtain ⟨z1, z2, z3, rfl, rfl⟩ := HZ.out
   exact ⟨vo, vv, rfl, z1, z2, z3, by repeat (first | exact HB.out | apply qA8)⟩
theorem reps_flat {α : Type} {R : α → List Value → Prop} {enc : α → List Value} {size : Nat} (hs : ∀ x, (enc x).length = size) (hR : ∀ x, R x (enc x)) : ∀ xs : List α, Reps R size xs (xs.flatMap enc)
 | [] => Reps.none _ _
 | x :: xs => by
  obtain ⟨h1, h2⟩ := reps_flat hs hR xs
  refine ⟨by rw [List.flatMap_cons, List.length_append, hs, h1, List.length_cons, Nat.add_mul, Nat.one_mul, Nat.add_comm], fun j p hj => ?_⟩
  cases j with
  | zero =>
   simp only [List.getElem?_cons_zero, Option.some.injEq] at hj
   subst hj
   rw [List.flatMap_cons, Nat.zero_mul, List.drop_zero, List.take_append_of_le_length (by rw [hs]; exact Nat.le_refl _), List.take_of_length_le (by rw [hs]; exact Nat.le_refl _)]
   exact hR x
  | succ j =>
   rw [List.getElem?_cons_succ] at hj
   have h3 := h2 j p hj
   rw [List.flatMap_cons, Nat.succ_mul, Nat.add_comm, ← List.drop_drop]
   rw [show List.drop size (enc x ++ xs.flatMap enc) = xs.flatMap enc from by rw [List.drop_append_of_le_length (by rw [hs]; exact Nat.le_refl _), List.drop_of_length_le (by rw [hs]; exact Nat.le_refl _), List.nil_append]]
   exact h3
theorem qC0.calls (A0 : Option Addr) (c0 : Nat) (l0 : List (S48)) (r1 : List S25) (r2 : List S32) (w : World) (hr0 : Kd.C k48 w A0 l0.length l0) (hc0 : l0.length ≤ c0) (h : qC0.f l0 = some (r1, r2)) :
  Calls Try.prog 7 #[.slice A0 l0.length c0] w fun e w' => ∃ v0_ v1_ : Value, e = .returned (.tuple #[v0_, v1_]) ∧ Kd.R k25 25 w' w.heap.size (fun k_ => some k_ ≠ (v1_ : Value).ownBlock) v0_ r1 ∧ Kd.R k32 32 w' w.heap.size (fun k_ => some k_ ≠ (v0_ : Value).ownBlock) v1_ r2 ∧ Below w.heap.size w w' := by
 refine (qC0.walk A0 c0 l0 r1 r2 w hr0 hc0 h).mono ?_
 rintro e w' ⟨vo, vv, rfl, h1, h2, h3, h4⟩
 exact ⟨vo, vv, rfl, ⟨fun k hk e => h3 k hk e.symm, _, h1, reps_flat (enc := enc25) (size := 4) (fun _ => rfl) (fun x => k25_mkM _ _ _ x) _⟩, ⟨fun k hk e => h3 k e.symm hk, _, h2, reps_flat (enc := enc32) (size := 2) (fun _ => rfl) (fun x => k32_mkM _ _ _ x) _⟩, h4⟩
end
end Go.Proofs.Ytnliaialemfcaaa.PRateFinds
end
section
namespace Go.Proofs.Ytnliaialemfcaaa.PRateFinds
noncomputable section
open Go.RowKit Go.Proofs.YtnliaialemfcaaaW.PrintWords Go.Proofs.YtnliaialemfcaaaW.PrintLast Go.Proofs.YtnliaialemfcaaaW.PrintMore
attribute [local go_sem high] eqA25 eqA32
def qC7.l0 : Nat → List (S25) → Int → Int → ByteArray → ByteArray → Int → Int → Option (Int)
 | 0, _, _, _, _, _, _, _ => none
 | k + 1, x0, x7, x8, x448000, x448001, x448002, x448003 => if x8 < x7 then (if 0 ≤ x8 then (if x8 < (x0.length : Int) then (if (x448000.toList == (((qBJ x0 x8).f0).toList) && (x448001.toList == (((qBJ x0 x8).f1).toList) && (x448002 == ((qBJ x0 x8).f2) && (x448003 == ((qBJ x0 x8).f3))))) = true then (some x8) else (qC7.l0 k x0 x7 (wrap64 (x8 + 1)) x448000 x448001 x448002 x448003)) else (none)) else (none)) else (some (-1))
def qC7.f (k : Nat) (l0 : List (S25)) (a1_0 : ByteArray) (a1_1 : ByteArray) (a1_2 : Int) (a1_3 : Int) : Option (Int) := qC7.l0 k l0 (l0.length : Int) 0 a1_0 a1_1 a1_2 a1_3
set_option maxHeartbeats 8000000 in
set_option maxRecDepth 100000 in
theorem qC7.calls (k : Nat) (A0 : Option Addr) (c0 : Nat) (l0 : List (S25)) (a1_0 : ByteArray) (a1_1 : ByteArray) (a1_2 : Int) (a1_3 : Int) (r : Int) (w : World) (hr0 : Kd.C k25 w A0 l0.length l0) (hc0 : l0.length ≤ c0) (h : qC7.f k l0 a1_0 a1_1 a1_2 a1_3 = some r) :
  Calls Try.prog 10 #[.slice A0 l0.length c0, .agg #[.string a1_0, .string a1_1, .int .i64 a1_2, .int .i64 a1_3]] w fun e w' => e = .returned (.int .i64 r) ∧ Below w.heap.size w w' := by
 have hu25 := Try.underlying25
 have HR0 := qA0.mk hr0
 have HC0 := qA0.mk hc0
 clear hr0 hc0
 have HB := qA0.mk (Below.refl w.heap.size w)
 have H : (qC7.l0 k l0 (l0.length : Int) 0 a1_0 a1_1 a1_2 a1_3) = some r := h
 clear h
 have H' := qA0.mk H
 clear H
 go_enter Try.func10, Try.ntmps10
 go_wp2_with (((with_reducible refine qAC (N := 3) rfl ?_); refine qAD ?hg (N := 3) ?hd (cs := #[.string a1_0, .string a1_1, .int .i64 a1_2, .int .i64 a1_3]) (t := 25) ?hr ?_; (case hd => rfl); (case hg => rfl); (case hr => first | (go_simp; done) | (go_simp; rfl)); intro gb447 hg w3 hbox hb; have BK447 := qA0.mk (hbox); have GW447 := zg w gb447; have GE447 := zg w gb447; replace HB := qA0.mk (qA1 zb hb); clear hb hbox hg))
 go_loopg [8] k (fun kq v8 w' => ∃ (x8_1 : Int), v8 = .int .i64 x8_1 ∧ qA0 (qC7.l0 kq l0 (l0.length : Int) x8_1 a1_0 a1_1 a1_2 a1_3 = some r) ∧ qA0 (kq ≤ k) ∧ qA0 (w'.heap[gb447]? = some (.cells #[.string a1_0, .string a1_1, .int .i64 a1_2, .int .i64 a1_3] 25 (0, 0))) ∧ qA0 (Below w.heap.size w w'))
 case atStart => exact ⟨(0), zs, H', ⟨Nat.le_refl _⟩, ⟨zk BK447⟩, ⟨zb⟩⟩
 case round =>
  clear H'
  obtain ⟨x8_1, rfl, HA, HK1, BK447, HB⟩ := hrel
  cases gk with
  | zero => exact absurd HA.out (by simp [qC7.l0])
  | succ k1 =>
   have H := HA.out
   clear HA
   simp only [qC7.l0] at H
   by_cases c4 : x8_1 < (l0.length : Int)
   ·rw [if_pos c4] at H
    have c4b0 := decide_eq_true c4
    clear c4
    by_cases c5 : 0 ≤ x8_1
    ·rw [if_pos c5] at H
     have c5b0 := decide_eq_true c5
     clear c5
     by_cases c6 : x8_1 < (l0.length : Int)
     ·rw [if_pos c6] at H
      have c6b0 := decide_eq_true c6
      clear c6
      by_cases c7 : (a1_0.toList == (((qBJ l0 x8_1).f0).toList) && (a1_1.toList == (((qBJ l0 x8_1).f1).toList) && (a1_2 == ((qBJ l0 x8_1).f2) && (a1_3 == ((qBJ l0 x8_1).f3))))) = true
      ·rw [if_pos c7] at H
       have c7b0 : (a1_0.toList == (((qBJ l0 x8_1).f0).toList) && (a1_1.toList == (((qBJ l0 x8_1).f1).toList) && (a1_2 == ((qBJ l0 x8_1).f2) && (a1_3 == ((qBJ l0 x8_1).f3))))) = true := c7
       (try (have c7b1 : decide (a1_0.toList = (((qBJ l0 x8_1).f0).toList) && (a1_1.toList == (((qBJ l0 x8_1).f1).toList) && (a1_2 == ((qBJ l0 x8_1).f2) && (a1_3 == ((qBJ l0 x8_1).f3))))) = true := by simpa using c7))
       (try (have c7b2 : (a1_0.toList == (((qBJ l0 x8_1).f0).toList) && (a1_1.toList == (((qBJ l0 x8_1).f1).toList) && (a1_2 == ((qBJ l0 x8_1).f2) && (a1_3 == ((qBJ l0 x8_1).f3))))) = true := by simpa using c7))
       clear c7
       obtain rfl := Option.some.inj H
       obtain ⟨hcz8_0, hcz8_1, hcz8_2, hcz8_3, hfz8_0, hfz8_1, hfz8_2, hfz8_3⟩ := bc4 BK447.out
       have p448 : 0 ≤ (x8_1 : Int) := zd
       have q448 : x8_1 < (l0.length : Int) := zd
       obtain ⟨ad448, e448, hx448_0, hx448_1, hx448_2, hx448_3⟩ := at_T25 HR0.out x8_1 p448 q448
       cases e448
       (try replace hx448_0 := zh hx448_0)
       replace hx448_1 := zh hx448_1
       replace hx448_2 := zh hx448_2
       replace hx448_3 := zh hx448_3
       replace p448 := eq_true p448
       replace q448 := eq_true q448
       go_wp2
       repeat (go_quiet (fail); try go_wp2)
       go_ret
       exact ⟨zf, zb⟩
      ·rw [if_neg c7] at H
       have c7b0 : (a1_0.toList == (((qBJ l0 x8_1).f0).toList) && (a1_1.toList == (((qBJ l0 x8_1).f1).toList) && (a1_2 == ((qBJ l0 x8_1).f2) && (a1_3 == ((qBJ l0 x8_1).f3))))) = false := by simpa using c7
       (try (have c7b1 : decide (a1_0.toList = (((qBJ l0 x8_1).f0).toList) && (a1_1.toList == (((qBJ l0 x8_1).f1).toList) && (a1_2 == ((qBJ l0 x8_1).f2) && (a1_3 == ((qBJ l0 x8_1).f3))))) = false := by simpa using c7))
       (try (have c7b2 : (a1_0.toList == (((qBJ l0 x8_1).f0).toList) && (a1_1.toList == (((qBJ l0 x8_1).f1).toList) && (a1_2 == ((qBJ l0 x8_1).f2) && (a1_3 == ((qBJ l0 x8_1).f3))))) = false := by simpa using c7))
       (try (have c7b3 : ¬ (a1_0.toList = (((qBJ l0 x8_1).f0).toList) && (a1_1.toList == (((qBJ l0 x8_1).f1).toList) && (a1_2 == ((qBJ l0 x8_1).f2) && (a1_3 == ((qBJ l0 x8_1).f3))))) := by simpa using c7))
       clear c7
       have H' := qA0.mk H
       clear H
       obtain ⟨hcz9_0, hcz9_1, hcz9_2, hcz9_3, hfz9_0, hfz9_1, hfz9_2, hfz9_3⟩ := bc4 BK447.out
       have p448 : 0 ≤ (x8_1 : Int) := zd
       have q448 : x8_1 < (l0.length : Int) := zd
       obtain ⟨ad448, e448, hx448_0, hx448_1, hx448_2, hx448_3⟩ := at_T25 HR0.out x8_1 p448 q448
       cases e448
       (try replace hx448_0 := zh hx448_0)
       replace hx448_1 := zh hx448_1
       replace hx448_2 := zh hx448_2
       replace hx448_3 := zh hx448_3
       replace p448 := eq_true p448
       replace q448 := eq_true q448
       go_wp2
       repeat (go_quiet (fail); try go_wp2)
       go_roundg k1
       case measure => have := HK1.out; omega
       case rel => exact ⟨(wrap64 (x8_1 + 1)), zs, H', ⟨by have := HK1.out; omega⟩, ⟨zk BK447⟩, ⟨zb⟩⟩
     ·rw [if_neg c6] at H
      exact absurd H (by simp)
    ·rw [if_neg c5] at H
     exact absurd H (by simp)
   ·rw [if_neg c4] at H
    have c4b0 := decide_eq_false c4
    clear c4
    obtain rfl := Option.some.inj H
    go_wp2
    go_ret
    exact ⟨zf, zb⟩
mutual
def qAB.j0 : Nat → Int → List (S25) → Int → Int → List (S25) → List (S32) → ByteArray → ByteArray → Int → Int → Int → Int → Option (Bool)
 | 0, _, _, _, _, _, _, _, _, _, _, _, _ => none
 | k + 1, x5, x6, x7, x9, x10, x11, x450000, x450001, x450002, x450003, x459000, x459001 => (qCO.f k).bind fun t465 => (if t465 = true then (if x7 = x5 then ((qC1.f k x6 x10).bind fun t466 => (qAB.j1 k x5 x9 x10 x11 (!t466) x450000 x450001 x450002 x450003 x459000 x459001)) else (qAB.j1 k x5 x9 x10 x11 true x450000 x450001 x450002 x450003 x459000 x459001)) else (qAB.j1 k x5 x9 x10 x11 true x450000 x450001 x450002 x450003 x459000 x459001))
def qAB.j1 : Nat → Int → Int → List (S25) → List (S32) → Bool → ByteArray → ByteArray → Int → Int → Int → Int → Option (Bool)
 | 0, _, _, _, _, _, _, _, _, _, _, _ => none
 | k + 1, x5, x9, x10, x11, x45, x450000, x450001, x450002, x450003, x459000, x459001 => if x45 = true then (some false) else ((qC7.f k x10 x450000 x450001 x450002 x450003).bind fun t467 => (if x5 = 0 then (qAB.j2 k x5 x9 x11 t467 (decide (t467 < 0)) x459000 x459001) else (qAB.j2 k x5 x9 x11 t467 false x459000 x459001)))
def qAB.j2 : Nat → Int → Int → List (S32) → Int → Bool → Int → Int → Option (Bool)
 | 0, _, _, _, _, _, _, _ => none
 | k + 1, x5, x9, x11, x12, x54, x459000, x459001 => if x54 = true then (if 4 = 0 then (if x9 = 4 then (if 0 ≤ x12 then (if x12 < (x11.length : Int) then (some (x459000 == ((rd_T32 x11 x12).f0) && (x459001 == ((rd_T32 x11 x12).f1)))) else (none)) else (none)) else (some false)) else (if x9 = 4 then (some (x459000 == 0 && (x459001 == 0))) else (some false))) else (if x5 = 0 then (if x9 = x5 then (if 0 ≤ x12 then (if x12 < (x11.length : Int) then (some (x459000 == ((rd_T32 x11 x12).f0) && (x459001 == ((rd_T32 x11 x12).f1)))) else (none)) else (none)) else (some false)) else (if x9 = x5 then (some (x459000 == 0 && (x459001 == 0))) else (some false)))
end
def qAB.f (k : Nat) (l0 : List (S48)) (a1_0 : ByteArray) (a1_1 : ByteArray) (a1_2 : Int) (a1_3 : Int) : Option (Bool) := (qCI.f l0).bind fun t450 => ((qB1.f k l0).bind fun bt451 => ((qER.f l0 a1_0 a1_1 a1_2 a1_3).bind fun bt455 => (if t450 = 0 then ((qC0.f l0).bind fun bt459 => (qAB.j0 k t450 bt451.1 bt451.2 bt455.2.2 bt459.1 bt459.2 a1_0 a1_1 a1_2 a1_3 bt455.1 bt455.2.1)) else (qAB.j0 k t450 bt451.1 bt451.2 bt455.2.2 ([] : List (S25)) ([] : List (S32)) a1_0 a1_1 a1_2 a1_3 bt455.1 bt455.2.1))))
set_option maxHeartbeats 8000000 in
set_option maxRecDepth 100000 in
theorem qAB.calls (k : Nat) (A0 : Option Addr) (c0 : Nat) (l0 : List (S48)) (a1_0 : ByteArray) (a1_1 : ByteArray) (a1_2 : Int) (a1_3 : Int) (r : Bool) (w : World) (hr0 : Kd.C k48 w A0 l0.length l0) (hc0 : l0.length ≤ c0) (h : qAB.f k l0 a1_0 a1_1 a1_2 a1_3 = some r) :
  Calls Try.prog 3 #[.slice A0 l0.length c0, .agg #[.string a1_0, .string a1_1, .int .i64 a1_2, .int .i64 a1_3]] w fun e w' => e = .returned (.bool r) ∧ Below w.heap.size w w' := by
 have hu25 := Try.underlying25
 have hu32 := Try.underlying32
 have HR0 := qA0.mk hr0
 have HC0 := qA0.mk hc0
 clear hr0 hc0
 have HB := qA0.mk (Below.refl w.heap.size w)
 have H : ((qCI.f l0).bind fun t450 => ((qB1.f k l0).bind fun bt451 => ((qER.f l0 a1_0 a1_1 a1_2 a1_3).bind fun bt455 => (if t450 = 0 then ((qC0.f l0).bind fun bt459 => (qAB.j0 k t450 bt451.1 bt451.2 bt455.2.2 bt459.1 bt459.2 a1_0 a1_1 a1_2 a1_3 bt455.1 bt455.2.1)) else (qAB.j0 k t450 bt451.1 bt451.2 bt455.2.2 ([] : List (S25)) ([] : List (S32)) a1_0 a1_1 a1_2 a1_3 bt455.1 bt455.2.1))))) = some r := h
 clear h
 replace H := Option.bind_eq_some_iff.mp H
 obtain ⟨t450, A30, H⟩ := H
 have A3 := qA0.mk A30
 clear A30
 replace H := Option.bind_eq_some_iff.mp H
 obtain ⟨⟨t451, t452⟩, A40, H⟩ := H
 replace H : ((qER.f l0 a1_0 a1_1 a1_2 a1_3).bind fun bt455 => (if t450 = 0 then ((qC0.f l0).bind fun bt459 => (qAB.j0 k t450 t451 t452 bt455.2.2 bt459.1 bt459.2 a1_0 a1_1 a1_2 a1_3 bt455.1 bt455.2.1)) else (qAB.j0 k t450 t451 t452 bt455.2.2 ([] : List (S25)) ([] : List (S32)) a1_0 a1_1 a1_2 a1_3 bt455.1 bt455.2.1))) = some r := H
 have A4 := qA0.mk A40
 clear A40
 replace H := Option.bind_eq_some_iff.mp H
 obtain ⟨⟨t455, t456, t457⟩, A50, H⟩ := H
 replace H : (if t450 = 0 then ((qC0.f l0).bind fun bt459 => (qAB.j0 k t450 t451 t452 t457 bt459.1 bt459.2 a1_0 a1_1 a1_2 a1_3 t455 t456)) else (qAB.j0 k t450 t451 t452 t457 ([] : List (S25)) ([] : List (S32)) a1_0 a1_1 a1_2 a1_3 t455 t456)) = some r := H
 have A5 := qA0.mk A50
 clear A50
 have HC6 := qA0.mk H
 clear H
 go_enter Try.func3, Try.ntmps3
 go_upto_if 27 with (first | ((with_reducible refine qAC (N := 3) rfl ?_); refine qAD ?hg (N := 3) ?hd (cs := #[.string a1_0, .string a1_1, .int .i64 a1_2, .int .i64 a1_3]) (t := 25) ?hr ?_; (case hd => rfl); (case hg => rfl); (case hr => first | (go_simp; done) | (go_simp; rfl)); intro gb449 hg w7 hbox hb; have BK449 := qA0.mk (hbox); have GW449 := zg w gb449; have GE449 := zg w gb449; replace HB := qA0.mk (qA1 zb hb); clear hb hbox hg) | (go_at_call 4; (with_reducible refine (qCI.calls _ _ l0 t450 _ ?side1 ?side2 A3.out).mono ?_); (case side1 => repeat (first | exact (Kd.qAQ HR0.out HB.out) | refine sC ?_)); (case side2 => exact HC0.out); rintro e w8 ⟨rfl, hb⟩; replace BK449 := qA0.mk (qA5 (zk BK449) hb); replace HB := qA0.mk (qA1 zb hb); (try clear hb); (try clear hb2); (try clear hk); (try clear hi)) | (go_at_call 5; (with_reducible refine (qB1.calls k _ _ l0 t451 t452 _ ?side1 ?side2 A4.out).mono ?_); (case side1 => repeat (first | exact (Kd.qAQ HR0.out HB.out) | refine sC ?_)); (case side2 => exact HC0.out); rintro e w9 ⟨v453, rfl, ho0, hb⟩; have HO454 := qA0.mk (Kd.qC9 (Kd.R_newB ho0 (g := gb449) (o := .cells #[.string a1_0, .string a1_1, .int .i64 a1_2, .int .i64 a1_3] 25 (0, 0)) (zk BK449)) (qAM zb)); replace BK449 := qA0.mk (qA5 (zk BK449) hb); replace HB := qA0.mk (qA1 zb hb); (try clear hb); (try clear hb2); (try clear hk); (try clear hi); (try clear ho0); obtain ⟨hcz10_0, hcz10_1, hcz10_2, hcz10_3, hfz10_0, hfz10_1, hfz10_2, hfz10_3⟩ := bc4 BK449.out) | (go_at_call 6; (with_reducible refine (qER.calls _ _ l0 a1_0 a1_1 a1_2 a1_3 t455 t456 t457 _ ?side1 ?side2 A5.out).mono ?_); (case side1 => repeat (first | exact (Kd.qAQ HR0.out HB.out) | refine sC ?_)); (case side2 => exact HC0.out); rintro e w11 ⟨rfl, hb⟩; replace HO454 := qA0.mk (Kd.qBC (by (with_reducible repeat refine sR ?_); exact HO454.out) hb); replace BK449 := qA0.mk (qA5 (zk BK449) hb); replace HB := qA0.mk (qA1 zb hb); (try clear hb); (try clear hb2); (try clear hk); (try clear hi)) | ((with_reducible refine qAC (N := 8) rfl ?_); refine qAD ?hg (N := 8) ?hd (cs := #[.int .i64 0, .int .i64 0]) (t := 32) ?hr ?_; (case hd => rfl); (case hg => rfl); (case hr => first | (go_simp; done) | (go_simp; rfl)); intro gb458 hg w12 hbox hb; have BK458 := qA0.mk (hbox); have GW458 := zg w gb458; have GE458 := zg w gb458; have NB449_458 := zl BK449 gb458; have NB458_449 := zu BK449 gb458; replace HO454 := qA0.mk (Kd.qBC (by (with_reducible repeat refine sR ?_); exact HO454.out) hb); replace BK449 := qA0.mk (qA5 (zk BK449) hb); replace HB := qA0.mk (qA1 zb hb); clear hb hbox hg; have hnb13 := NB458_449.out; have hnc13 := NB449_458.out; obtain ⟨hcz14_0, hcz14_1, hfz14_0, hfz14_1⟩ := bc2 BK458.out))
 go_cut [10, 11] (fun v10 v11 wc => ∃ (kq : Nat) (x10_5 : List (S25)) (x11_5 : List (S32)), qA0 (qAB.j0 kq t450 t451 t452 t457 x10_5 x11_5 a1_0 a1_1 a1_2 a1_3 t455 t456 = some r) ∧ qA0 (kq ≤ k) ∧ qA0 (Kd.R k25 25 wc w.heap.size (fun k_ => some k_ ≠ (v10 : Value).ownBlock ∧ k_ ≠ gb449) v453 t451) ∧ qA0 (Kd.R k25 25 wc w.heap.size (fun k_ => some k_ ≠ (v453 : Value).ownBlock ∧ k_ ≠ gb449) v10 x10_5) ∧ qA0 (Kd.R k32 32 wc w.heap.size (fun k_ => k_ ≠ gb458) v11 x11_5) ∧ qA0 (wc.heap[gb449]? = some (.cells #[.string a1_0, .string a1_1, .int .i64 a1_2, .int .i64 a1_3] 25 (0, 0))) ∧ qA0 (wc.heap[gb458]? = some (.cells #[.int .i64 t455, .int .i64 t456] 32 (0, 0))) ∧ qA0 (Below w.heap.size w wc))
 case first =>
  have H := HC6.out
  clear HC6
  by_cases c15 : t450 = 0
  ·rw [if_pos c15] at H
   have ⟨c15b0, c15b1⟩ := ze c15
   clear c15
   (first | rw [c15b0] | (simp only [qCE, qCJ]; rw [c15b0]) | skip)
   replace H := Option.bind_eq_some_iff.mp H
   obtain ⟨⟨t459, t460⟩, A160, H⟩ := H
   replace H : (qAB.j0 k t450 t451 t452 t457 t459 t460 a1_0 a1_1 a1_2 a1_3 t455 t456) = some r := H
   have A16 := qA0.mk A160
   clear A160
   have H' := qA0.mk H
   clear H
   go_wp2_with ((go_at_call 7; (with_reducible refine (qC0.calls _ _ l0 t459 t460 _ ?side1 ?side2 A16.out).mono ?_); (case side1 => exact Kd.qAQ HR0.out zb); (case side2 => exact HC0.out); rintro e w17 ⟨v461, v463, rfl, ho0, ho1, hb⟩; have HO462 := qA0.mk (Kd.qC9 (Kd.R_newB (Kd.R_new' ho0 (Kd.R_lt (by (with_reducible repeat refine sR ?_); exact (Kd.qB6 (Kd.qAS (Kd.qAS (Kd.qBZ HO454.out BK458.out (by decide)) (fun _ hk => hk.2) _) (fun _ hk => hk.2) _) (fun _ h_ => h_.1))))) (g := gb449) (o := .cells #[.string a1_0, .string a1_1, .int .i64 a1_2, .int .i64 a1_3] 25 (0, 0)) (by refine zf_ ?_ NB449_458; refine zf_ ?_ NB449_458; (with_reducible repeat refine st ?_); exact BK449.out)) (qAM zb)); have HO464 := qA0.mk (Kd.qC9 (Kd.R_newB ho1 (g := gb458) (o := .cells #[.int .i64 t455, .int .i64 t456] 32 (0, 0)) (by refine zp_ (cs := #[.int .i64 t455, .int .i64 0]) ?_ 1; refine zp_ (cs := #[.int .i64 0, .int .i64 0]) ?_ 0; (with_reducible repeat refine st ?_); exact BK458.out)) (qAM zb)); replace HO454 := qA0.mk (Kd.qFA (by (with_reducible repeat refine sR ?_); exact (Kd.qB6 (Kd.qAS (Kd.qAS (Kd.qBZ HO454.out BK458.out (by decide)) (fun _ hk => hk.2) _) (fun _ hk => hk.2) _) (fun _ h_ => h_.1))) (Kd.qEO ho0) hb); replace BK449 := qA0.mk (qA5 (g := gb449) (o := .cells #[.string a1_0, .string a1_1, .int .i64 a1_2, .int .i64 a1_3] 25 (0, 0)) (by refine zf_ ?_ NB449_458; refine zf_ ?_ NB449_458; (with_reducible repeat refine st ?_); exact BK449.out) hb); replace BK458 := qA0.mk (qA5 (g := gb458) (o := .cells #[.int .i64 t455, .int .i64 t456] 32 (0, 0)) (by refine zp_ (cs := #[.int .i64 t455, .int .i64 0]) ?_ 1; refine zp_ (cs := #[.int .i64 0, .int .i64 0]) ?_ 0; (with_reducible repeat refine st ?_); exact BK458.out) hb); replace HB := qA0.mk (qA1 zb hb); (try clear hb); (try clear hb2); (try clear hk); (try clear hi); (try clear ho0); (try clear ho1)))
   go_meet
   case rel => exact ⟨_, (t459), (t460), H', ⟨by first | omega | exact Nat.le_refl _⟩, ⟨by (with_reducible repeat refine sR ?_); exact Kd.qB6 HO454.out (fun _ hk => ⟨hk.2, hk.1.2⟩)⟩, ⟨by (with_reducible repeat refine sR ?_); exact Kd.qB6 HO462.out (fun _ hk => ⟨hk.1.2, hk.2⟩)⟩, ⟨by (with_reducible repeat refine sR ?_); exact Kd.qB6 HO464.out (fun _ hk => hk.2)⟩, ⟨zk BK449⟩, ⟨zk BK458⟩, ⟨zb⟩⟩
  ·rw [if_neg c15] at H
   have ⟨c15b0, c15b1⟩ := zn c15
   (first | rw [c15b0] | (simp only [qCE, qCJ]; rw [c15b0]) | skip)
   have H' := qA0.mk H
   clear H
   go_wp2
   go_meet
   case rel => exact ⟨_, (([] : List (S25))), (([] : List (S32))), H', ⟨by first | omega | exact Nat.le_refl _⟩, ⟨by (with_reducible repeat refine sR ?_); exact Kd.qB6 (Kd.qAS (Kd.qAS (Kd.qBZ HO454.out BK458.out (by decide)) (fun _ hk => hk.2) _) (fun _ hk => hk.2) _) (fun _ hk => ⟨(by simp [Value.ownBlock]), hk.1.2⟩)⟩, ⟨by first | exact Kd.R_nil _ _ _ _ _ | exact Kd.N_nil _ _ _ _ _ | exact Kd.V_nil _ _ _ _ _ | exact Kd.Q_nil _ _ _ _ _ | exact Kd.S_nil _ _ _ _ _⟩, ⟨by first | exact Kd.R_nil _ _ _ _ _ | exact Kd.N_nil _ _ _ _ _ | exact Kd.V_nil _ _ _ _ _ | exact Kd.Q_nil _ _ _ _ _ | exact Kd.S_nil _ _ _ _ _⟩, ⟨by refine zf_ ?_ NB449_458; refine zf_ ?_ NB449_458; (with_reducible repeat refine st ?_); exact BK449.out⟩, ⟨by refine zp_ (cs := #[.int .i64 t455, .int .i64 0]) ?_ 1; refine zp_ (cs := #[.int .i64 0, .int .i64 0]) ?_ 0; (with_reducible repeat refine st ?_); exact BK458.out⟩, ⟨zb⟩⟩
 case rest =>
  clear HC6 hcz10_0 hcz10_1 hcz10_2 hcz10_3 hcz14_0 hcz14_1 hfz10_0 hfz10_1 hfz10_2 hfz10_3 hfz14_0 hfz14_1
  obtain ⟨kq, x10_5, x11_5, HA, HJ5, HO_6, HO_10, HO_11, BK449, BK458, HB⟩ := hcut
  cases kq with
  | zero => exact absurd HA.out (by simp [qAB.j0])
  | succ kj5 =>
   have H := HA.out
   clear HA
   simp only [qAB.j0] at H
   have HC18 := qA0.mk H
   clear H
   go_upto_region 8 with (fail)
   go_cut [45] (fun v45 wc => ∃ (kq : Nat) (x45_17 : Bool), v45 = .bool x45_17 ∧ qA0 (qAB.j1 kq t450 t457 x10_5 x11_5 x45_17 a1_0 a1_1 a1_2 a1_3 t455 t456 = some r) ∧ qA0 (kq ≤ kj5) ∧ qA0 (Kd.R k25 25 wc w.heap.size (fun k_ => k_ ≠ gb449) u10 x10_5) ∧ qA0 (Kd.R k32 32 wc w.heap.size (fun k_ => k_ ≠ gb458) u11 x11_5) ∧ qA0 (wc.heap[gb449]? = some (.cells #[.string a1_0, .string a1_1, .int .i64 a1_2, .int .i64 a1_3] 25 (0, 0))) ∧ qA0 (wc.heap[gb458]? = some (.cells #[.int .i64 t455, .int .i64 t456] 32 (0, 0))) ∧ qA0 (Below w.heap.size w wc))
   case first =>
    have H := HC18.out
    clear HC18
    replace H := Option.bind_eq_some_iff.mp H
    obtain ⟨t465, A190, H⟩ := H
    have A19 := qA0.mk A190
    clear A190
    by_cases c20 : t465 = true
    ·subst c20
     rw [if_pos rfl] at H
     by_cases c21 : t452 = t450
     ·rw [if_pos c21] at H
      have ⟨c21b0, c21b1⟩ := ze c21
      clear c21
      (first | rw [c21b0] | (simp only [qCE, qCJ]; rw [c21b0]) | skip)
      replace H := Option.bind_eq_some_iff.mp H
      obtain ⟨t466, A220, H⟩ := H
      have A22 := qA0.mk A220
      clear A220
      have H' := qA0.mk H
      clear H
      go_wp2_with (first | (go_at_call 8; (with_reducible refine (qCO.calls kj5  true _ A19.out).mono ?_); rintro e w23 ⟨rfl, hb⟩; replace HO_6 := qA0.mk (Kd.qBC (by (with_reducible repeat refine sR ?_); exact HO_6.out) hb); replace HO_10 := qA0.mk (Kd.qBC (by (with_reducible repeat refine sR ?_); exact HO_10.out) hb); replace HO_11 := qA0.mk (Kd.qBC (by (with_reducible repeat refine sR ?_); exact HO_11.out) hb); replace BK449 := qA0.mk (qA5 (zk BK449) hb); replace BK458 := qA0.mk (qA5 (zk BK458) hb); replace HB := qA0.mk (qA1 zb hb); (try clear hb); (try clear hb2); (try clear hk); (try clear hi); obtain ⟨Ao24, co24, eo24⟩ := Kd.qBW HO_6.out; subst eo24; obtain ⟨Ao25, co25, eo25⟩ := Kd.qBW HO_10.out; subst eo25) | (go_at_call 9; (with_reducible refine (qC1.calls kj5 _ _ t451 _ _ x10_5 t466 _ ?side1 ?side2 ?side3 ?side4 A22.out).mono ?_); (case side1 => repeat (first | exact (Kd.qAU HO_6.out).2.2 | refine sC ?_)); (case side2 => exact (Kd.qAU HO_6.out).2.1); (case side3 => repeat (first | exact (Kd.qAU HO_10.out).2.2 | refine sC ?_)); (case side4 => exact (Kd.qAU HO_10.out).2.1); rintro e w' ⟨rfl, ⟨nd, rfl⟩⟩; (try first | exact ⟨rfl, _, World.drewN_drewN _ _ _⟩ | exact ⟨rfl, _, Eq.trans (World.drewN_drewN _ _ _) (congrArg (World.drewN _) (Nat.add_assoc _ _ _))⟩)))
      go_meet
      case rel => exact ⟨_, (!t466), zs, H', ⟨by have := HJ5.out; first | omega | exact Nat.le_refl _⟩, ⟨by (with_reducible repeat refine sR ?_); exact Kd.qB6 HO_10.out (fun _ hk => hk.2)⟩, zR HO_11, ⟨zk BK449⟩, ⟨zk BK458⟩, ⟨zb⟩⟩
     ·rw [if_neg c21] at H
      have ⟨c21b0, c21b1⟩ := zn c21
      (first | rw [c21b0] | (simp only [qCE, qCJ]; rw [c21b0]) | skip)
      have H' := qA0.mk H
      clear H
      go_wp2_with ((go_at_call 8; (with_reducible refine (qCO.calls kj5  true _ A19.out).mono ?_); rintro e w26 ⟨rfl, hb⟩; replace HO_6 := qA0.mk (Kd.qBC (by (with_reducible repeat refine sR ?_); exact HO_6.out) hb); replace HO_10 := qA0.mk (Kd.qBC (by (with_reducible repeat refine sR ?_); exact HO_10.out) hb); replace HO_11 := qA0.mk (Kd.qBC (by (with_reducible repeat refine sR ?_); exact HO_11.out) hb); replace BK449 := qA0.mk (qA5 (zk BK449) hb); replace BK458 := qA0.mk (qA5 (zk BK458) hb); replace HB := qA0.mk (qA1 zb hb); (try clear hb); (try clear hb2); (try clear hk); (try clear hi)))
      go_meet
      case rel => exact ⟨_, (true), zs, H', ⟨by have := HJ5.out; first | omega | exact Nat.le_refl _⟩, ⟨by (with_reducible repeat refine sR ?_); exact Kd.qB6 HO_10.out (fun _ hk => hk.2)⟩, zR HO_11, ⟨zk BK449⟩, ⟨zk BK458⟩, ⟨zb⟩⟩
    ·replace c20 := Bool.eq_false_iff.mpr c20
     subst c20
     rw [if_neg (show ¬ (false = true) by decide)] at H
     have H' := qA0.mk H
     clear H
     go_wp2_with ((go_at_call 8; (with_reducible refine (qCO.calls kj5  false _ A19.out).mono ?_); rintro e w27 ⟨rfl, hb⟩; replace HO_6 := qA0.mk (Kd.qBC (by (with_reducible repeat refine sR ?_); exact HO_6.out) hb); replace HO_10 := qA0.mk (Kd.qBC (by (with_reducible repeat refine sR ?_); exact HO_10.out) hb); replace HO_11 := qA0.mk (Kd.qBC (by (with_reducible repeat refine sR ?_); exact HO_11.out) hb); replace BK449 := qA0.mk (qA5 (zk BK449) hb); replace BK458 := qA0.mk (qA5 (zk BK458) hb); replace HB := qA0.mk (qA1 zb hb); (try clear hb); (try clear hb2); (try clear hk); (try clear hi)))
     go_meet
     case rel => exact ⟨_, (true), zs, H', ⟨by have := HJ5.out; first | omega | exact Nat.le_refl _⟩, ⟨by (with_reducible repeat refine sR ?_); exact Kd.qB6 HO_10.out (fun _ hk => hk.2)⟩, zR HO_11, ⟨zk BK449⟩, ⟨zk BK458⟩, ⟨zb⟩⟩
   case rest =>
    clear HC18
    obtain ⟨kq, x45_17, rfl, HA, HJ17, HO_10, HO_11, BK449, BK458, HB⟩ := hcut
    cases kq with
    | zero => exact absurd HA.out (by simp [qAB.j1])
    | succ kj17 =>
     have H := HA.out
     clear HA
     simp only [qAB.j1] at H
     by_cases c28 : x45_17 = true
     ·subst c28
      rw [if_pos rfl] at H
      obtain rfl := Option.some.inj H
      go_wp2
      go_ret
      exact ⟨by first | rfl | (simp [qBU, qBT] <;> rfl) | (exfalso; revert c37b0; decide) | (simp [*, qBU, qBT] <;> rfl), zb⟩
     ·replace c28 := Bool.eq_false_iff.mpr c28
      subst c28
      rw [if_neg (show ¬ (false = true) by decide)] at H
      replace H := Option.bind_eq_some_iff.mp H
      obtain ⟨t467, A290, H⟩ := H
      have A29 := qA0.mk A290
      clear A290
      have HC30 := qA0.mk H
      clear H
      have hnb31 := NB449_458.out
      have hnc31 := NB458_449.out
      obtain ⟨hcz32_0, hcz32_1, hcz32_2, hcz32_3, hfz32_0, hfz32_1, hfz32_2, hfz32_3⟩ := bc4 BK449.out
      obtain ⟨Ao33, co33, eo33⟩ := Kd.qBW HO_10.out
      subst eo33
      go_upto_region 11 with ((go_at_call 10; (with_reducible refine (qC7.calls kj17 _ _ x10_5 a1_0 a1_1 a1_2 a1_3 t467 _ ?side1 ?side2 A29.out).mono ?_); (case side1 => repeat (first | exact (Kd.qAU HO_10.out).2.2 | refine sC ?_)); (case side2 => exact (Kd.qAU HO_10.out).2.1); rintro e w34 ⟨rfl, hb⟩; replace HO_10 := qA0.mk (Kd.qBC (by (with_reducible repeat refine sR ?_); exact HO_10.out) hb); replace HO_11 := qA0.mk (Kd.qBC (by (with_reducible repeat refine sR ?_); exact HO_11.out) hb); replace BK449 := qA0.mk (qA5 (zk BK449) hb); replace BK458 := qA0.mk (qA5 (zk BK458) hb); replace HB := qA0.mk (qA1 zb hb); (try clear hb); (try clear hb2); (try clear hk); (try clear hi)))
      go_cut [54] (fun v54 wc => ∃ (kq : Nat) (x54_29 : Bool), v54 = .bool x54_29 ∧ qA0 (qAB.j2 kq t450 t457 x11_5 t467 x54_29 t455 t456 = some r) ∧ qA0 (kq ≤ kj17) ∧ qA0 (Kd.R k32 32 wc w.heap.size (fun k_ => k_ ≠ gb458) u11 x11_5) ∧ qA0 (wc.heap[gb449]? = some (.cells #[.string a1_0, .string a1_1, .int .i64 a1_2, .int .i64 a1_3] 25 (0, 0))) ∧ qA0 (wc.heap[gb458]? = some (.cells #[.int .i64 t455, .int .i64 t456] 32 (0, 0))) ∧ qA0 (Below w.heap.size w wc))
      case first =>
       have H := HC30.out
       clear HC30
       by_cases c35 : t450 = 0
       ·rw [if_pos c35] at H
        have ⟨c35b0, c35b1⟩ := ze c35
        clear c35
        (first | rw [c35b0] | (simp only [qCE, qCJ]; rw [c35b0]) | skip)
        have H' := qA0.mk H
        clear H
        go_wp2
        go_meet
        case rel => exact ⟨_, (decide (t467 < 0)), zs, H', ⟨by have := HJ5.out; have := HJ17.out; first | omega | exact Nat.le_refl _⟩, zR HO_11, ⟨zk BK449⟩, ⟨zk BK458⟩, ⟨zb⟩⟩
       ·rw [if_neg c35] at H
        have ⟨c35b0, c35b1⟩ := zn c35
        (first | rw [c35b0] | (simp only [qCE, qCJ]; rw [c35b0]) | skip)
        have H' := qA0.mk H
        clear H
        go_wp2
        go_meet
        case rel => exact ⟨_, (false), zs, H', ⟨by have := HJ5.out; have := HJ17.out; first | omega | exact Nat.le_refl _⟩, zR HO_11, ⟨zk BK449⟩, ⟨zk BK458⟩, ⟨zb⟩⟩
      case rest =>
       clear HC30 hcz32_0 hcz32_1 hcz32_2 hcz32_3 hfz32_0 hfz32_1 hfz32_2 hfz32_3
       obtain ⟨kq, x54_29, rfl, HA, HJ29, HO_11, BK449, BK458, HB⟩ := hcut
       cases kq with
       | zero => exact absurd HA.out (by simp [qAB.j2])
       | succ kj29 =>
        have H := HA.out
        clear HA
        simp only [qAB.j2] at H
        by_cases c36 : x54_29 = true
        ·subst c36
         rw [if_pos rfl] at H
         by_cases c37 : 4 = 0
         ·rw [if_pos c37] at H
          have ⟨c37b0, c37b1⟩ := ze c37
          clear c37
          by_cases c38 : t457 = 4
          ·rw [if_pos c38] at H
           have ⟨c38b0, c38b1⟩ := ze c38
           clear c38
           by_cases c39 : 0 ≤ t467
           ·rw [if_pos c39] at H
            have c39b0 := decide_eq_true c39
            clear c39
            by_cases c40 : t467 < (x11_5.length : Int)
            ·rw [if_pos c40] at H
             have c40b0 := decide_eq_true c40
             clear c40
             obtain rfl := Option.some.inj H
             have hnb41 := NB458_449.out
             have hnc41 := NB449_458.out
             obtain ⟨hcz42_0, hcz42_1, hfz42_0, hfz42_1⟩ := bc2 BK458.out
             obtain ⟨Ao43, co43, eo43⟩ := Kd.qBW HO_11.out
             subst eo43
             have p468 : 0 ≤ (t467 : Int) := zd
             have q468 : t467 < (x11_5.length : Int) := zd
             obtain ⟨ad468, e468, hx468_0, hx468_1⟩ := at_T32 (Kd.qAU HO_11.out).2.2 t467 p468 q468
             cases e468
             replace p468 := eq_true p468
             replace q468 := eq_true q468
             go_wp2
             go_ret
             exact ⟨by first | rfl | (simp [qBU, qBT] <;> rfl) | (exfalso; revert c37b0; decide) | (simp [*, qBU, qBT] <;> rfl), zb⟩
            ·rw [if_neg c40] at H
             exact absurd H (by simp)
           ·rw [if_neg c39] at H
            exact absurd H (by simp)
          ·rw [if_neg c38] at H
           have ⟨c38b0, c38b1⟩ := zn c38
           obtain rfl := Option.some.inj H
           go_wp2
           go_ret
           exact ⟨by first | rfl | (simp [qBU, qBT] <;> rfl) | (exfalso; revert c37b0; decide) | (simp [*, qBU, qBT] <;> rfl), zb⟩
         ·rw [if_neg c37] at H
          have ⟨c37b0, c37b1⟩ := zn c37
          by_cases c44 : t457 = 4
          ·rw [if_pos c44] at H
           have ⟨c44b0, c44b1⟩ := ze c44
           clear c44
           obtain rfl := Option.some.inj H
           have hnb45 := NB458_449.out
           have hnc45 := NB449_458.out
           obtain ⟨hcz46_0, hcz46_1, hfz46_0, hfz46_1⟩ := bc2 BK458.out
           go_wp2
           go_ret
           exact ⟨by first | rfl | (simp [qBU, qBT] <;> rfl) | (exfalso; revert c37b0; decide) | (simp [*, qBU, qBT] <;> rfl), zb⟩
          ·rw [if_neg c44] at H
           have ⟨c44b0, c44b1⟩ := zn c44
           obtain rfl := Option.some.inj H
           go_wp2
           go_ret
           exact ⟨by first | rfl | (simp [qBU, qBT] <;> rfl) | (exfalso; revert c37b0; decide) | (simp [*, qBU, qBT] <;> rfl), zb⟩
        ·replace c36 := Bool.eq_false_iff.mpr c36
         subst c36
         rw [if_neg (show ¬ (false = true) by decide)] at H
         by_cases c47 : t450 = 0
         ·rw [if_pos c47] at H
          have ⟨c47b0, c47b1⟩ := ze c47
          clear c47
          by_cases c48 : t457 = t450
          ·rw [if_pos c48] at H
           have ⟨c48b0, c48b1⟩ := ze c48
           clear c48
           by_cases c49 : 0 ≤ t467
           ·rw [if_pos c49] at H
            have c49b0 := decide_eq_true c49
            clear c49
            by_cases c50 : t467 < (x11_5.length : Int)
            ·rw [if_pos c50] at H
             have c50b0 := decide_eq_true c50
             clear c50
             obtain rfl := Option.some.inj H
             have hnb51 := NB458_449.out
             have hnc51 := NB449_458.out
             obtain ⟨hcz52_0, hcz52_1, hfz52_0, hfz52_1⟩ := bc2 BK458.out
             obtain ⟨Ao53, co53, eo53⟩ := Kd.qBW HO_11.out
             subst eo53
             have p469 : 0 ≤ (t467 : Int) := zd
             have q469 : t467 < (x11_5.length : Int) := zd
             obtain ⟨ad469, e469, hx469_0, hx469_1⟩ := at_T32 (Kd.qAU HO_11.out).2.2 t467 p469 q469
             cases e469
             replace p469 := eq_true p469
             replace q469 := eq_true q469
             go_wp2
             repeat (go_quiet (fail); try go_wp2)
             go_ret
             exact ⟨by first | rfl | (simp [qBU, qBT] <;> rfl) | (exfalso; revert c37b0; decide) | (simp [*, qBU, qBT] <;> rfl), zb⟩
            ·rw [if_neg c50] at H
             exact absurd H (by simp)
           ·rw [if_neg c49] at H
            exact absurd H (by simp)
          ·rw [if_neg c48] at H
           have ⟨c48b0, c48b1⟩ := zn c48
           obtain rfl := Option.some.inj H
           go_wp2
           repeat (go_quiet (fail); try go_wp2)
           go_ret
           exact ⟨by first | rfl | (simp [qBU, qBT] <;> rfl) | (exfalso; revert c37b0; decide) | (simp [*, qBU, qBT] <;> rfl), zb⟩
         ·rw [if_neg c47] at H
          have ⟨c47b0, c47b1⟩ := zn c47
          by_cases c54 : t457 = t450
          ·rw [if_pos c54] at H
           have ⟨c54b0, c54b1⟩ := ze c54
           clear c54
           obtain rfl := Option.some.inj H
           have hnb55 := NB458_449.out
           have hnc55 := NB449_458.out
           obtain ⟨hcz56_0, hcz56_1, hfz56_0, hfz56_1⟩ := bc2 BK458.out
           go_wp2
           go_ret
           exact ⟨by first | rfl | (simp [qBU, qBT] <;> rfl) | (exfalso; revert c37b0; decide) | (simp [*, qBU, qBT] <;> rfl), zb⟩
          ·rw [if_neg c54] at H
           have ⟨c54b0, c54b1⟩ := zn c54
           obtain rfl := Option.some.inj H
           go_wp2
           go_ret
           exact ⟨by first | rfl | (simp [qBU, qBT] <;> rfl) | (exfalso; revert c37b0; decide) | (simp [*, qBU, qBT] <;> rfl), zb⟩
end
end Go.Proofs.Ytnliaialemfcaaa.PRateFinds
end
section
namespace Go.Proofs.Ytnliaialemfcaaa.Open
open Go Go.Deep Go.ChangeShapes Go.WideShapes Go.Proofs.YtnliaialemfcaaaW.PrintWords
variable {P : Program}
def Fit {H : Type} (P : Program) (t : TypeId) (d : DataW H) : Prop := (d.weights P t).all (· ≤ reachBytes) = true
def Opens {α : Type} (k : Kd α) (P : Program) (t : TypeId) (Ok : α → Prop) : Prop :=
 P.cellsOf t = k.sz ∧ ∀ (H : Type) (enc : TypeId × Value → H) (w : World) (spare : Nat → Bool) (held : Bool) (fuel : Nat) (cs : List Value) (x : DataW H × List MemPlace), DataW.trod enc P w 0 spare held fuel t cs = some x → ∃ v : α, k.K w v cs ∧ (Fit P t x.1 → Ok v)
def OpensF {α : Type} (k : Kd α) (P : Program) (fs : Array Field) (_j off tot : Nat) (Ok : α → Prop) : Prop :=
 ∀ (H : Type) (enc : TypeId × Value → H) (w : World) (spare : Nat → Bool) (held : Bool) (n : Nat) (cs : List Value) (xs : List (DataW H × List MemPlace)), cs.length = tot → xs.length = fs.size →
  (∀ (i : Nat) (f : Field), fs[i]? = some f → DataW.trod enc P w 0 spare held n f.type ((cs.drop f.offset).take (P.cellsOf f.type)) = xs[i]?) →
  ∃ v : α, k.K w v (cs.drop off) ∧ ((∀ (i : Nat) (f : Field) (x : DataW H × List MemPlace), fs[i]? = some f → xs[i]? = some x → Fit P f.type x.1) → Ok v)
theorem qCL {kk : IntKind} {t : TypeId} (hu : P.underlying t = some (.int kk)) (hc : P.cellsOf t = 1) : Opens (Kd.int kk) P t (fun n => (Lit.int kk n).wf = true) :=
 ⟨hc, fun H enc w spare held fuel cs x h => by
  obtain ⟨n, rfl, rfl, hw⟩ := DataW.trod_int hu h
  exact ⟨n, rfl, fun _ => hw⟩⟩
theorem opens_bool {t : TypeId} (hu : P.underlying t = some .bool) (hc : P.cellsOf t = 1) : Opens Kd.bool P t (fun _ => True) :=
 ⟨hc, fun H enc w spare held fuel cs x h => by
  obtain ⟨n, rfl, rfl⟩ := DataW.trod_bool hu h
  exact ⟨n, rfl, fun _ => trivial⟩⟩
theorem qCW {t : TypeId} (hu : P.underlying t = some .string) (hc : P.cellsOf t = 1) : Opens Kd.string P t (fun s => s.size ≤ reachBytes) :=
 ⟨hc, fun H enc w spare held fuel cs x h => by
  obtain ⟨s, rfl, rfl, hs⟩ := DataW.trod_string hu h
  refine ⟨s, rfl, fun hf => ?_⟩
  have hf' := List.all_eq_true.1 hf s.data.toList.length (by simp [DataW.weights])
  simpa using hf'⟩
theorem list_of {α : Type} {p : Nat → α → Prop} : ∀ (n : Nat), (∀ i, i < n → ∃ v, p i v) → ∃ l : List α, l.length = n ∧ ∀ i v, l[i]? = some v → p i v
 | 0, _ => ⟨[], rfl, fun i v h => by simp at h⟩
 | n + 1, h => by
  obtain ⟨l, hl, hp⟩ := list_of n (fun i hi => h i (by omega))
  obtain ⟨v, hv⟩ := h n (by omega)
  refine ⟨l ++ [v], by simp [hl], fun i u hu => ?_⟩
  rcases Nat.lt_or_ge i l.length with hi | hi
  ·exact hp i u (by rwa [List.getElem?_append_left hi] at hu)
  ·rw [List.getElem?_append_right hi] at hu
   have h0 : i - l.length = 0 := by
    rcases Nat.eq_zero_or_pos (i - l.length) with h | h
    ·exact h
    ·rw [List.getElem?_eq_none (by simp only [List.length_singleton]; omega)] at hu; cases hu
   rw [h0, List.getElem?_cons_zero] at hu
   injection hu with hu
   subst hu
   obtain rfl : i = n := by omega
   exact hv
theorem fit_all {H : Type} {e : TypeId} : ∀ {l : List (DataW H)}, (DataW.weightsAll P e l).all (· ≤ reachBytes) = true → ∀ d ∈ l, Fit P e d
 | [], _, d, hd => by cases hd
 | d0 :: l, h, d, hd => by
  rw [DataW.weightsAll, List.all_append, Bool.and_eq_true] at h
  rcases List.mem_cons.1 hd with rfl | hd
  ·exact h.1
  ·exact fit_all h.2 d hd
theorem qDA {α : Type} {k : Kd α} {t e : TypeId} {Ok : α → Prop} (hu : P.underlying t = some (.slice e)) (hc : P.cellsOf t = 1) (he : Opens k P e Ok) : Opens (Kd.slice e k) P t (fun l => l.length * P.bytesOf e ≤ reachBytes ∧ ∀ x ∈ l, Ok x) :=
 ⟨hc, fun H enc w spare held fuel cs x h => by
  rcases open_slice hu h with ⟨rfl, rfl⟩ | ⟨a, len, cap, m, n, D, Pl, rfl, _, hl, hm, hmm, rfl, hx⟩
  ·exact ⟨[], ⟨none, 0, rfl, Nat.le_refl _, rfl, Nat.zero_le _, fun h => absurd h (Nat.lt_irrefl _)⟩, fun _ => ⟨by simp, fun x hx => by cases hx⟩⟩
  ·have hlm : len ≤ m := by rw [hmm]; split <;> omega
   obtain ⟨l, hll, hlp⟩ := list_of (p := fun i v => (∃ cs', w.cells? 0 (a.add (i * P.cellsOf e)) (P.cellsOf e) = some cs' ∧ k.K w v cs') ∧ (Fit P e (D i) → Ok v)) len (fun i hi => by
    obtain ⟨cs', h1, h2⟩ := hx i (by omega)
    obtain ⟨v, hv, hf⟩ := he.2 H enc w spare held n cs' _ h2
    exact ⟨v, ⟨cs', h1, hv⟩, hf⟩)
   refine ⟨l, ⟨some a, cap, by rw [hll], by omega, rfl, by rw [hll]; exact Nat.le_trans hl hm, fun _ => ⟨a, rfl, fun j p hj => ?_⟩⟩, fun hf => ⟨?_, fun v hv => ?_⟩⟩
   ·obtain ⟨⟨cs', h1, hK⟩, _⟩ := hlp j p hj
    obtain ⟨_, hlen, hcell⟩ := World.cells?_some h1
    refine ⟨cs', k.K_len hK, hK, fun i u hi => ?_⟩
    have hi' : i < cs'.length := (List.getElem?_eq_some_iff.1 hi).1
    have := hcell i (by omega)
    rw [Deep.add_add, he.1] at this
    rw [this, hi]
   ·unfold Fit at hf
    simp only [DataW.weights, hu, List.all_cons, Bool.and_eq_true, decide_eq_true_eq, List.length_map, List.length_range] at hf
    rw [hll]
    exact Nat.le_trans (Nat.mul_le_mul_right _ (Nat.le_add_right _ _)) hf.1
   ·obtain ⟨i, hi, rfl⟩ := List.getElem_of_mem hv
    refine (hlp i _ (List.getElem?_eq_getElem hi)).2 ?_
    unfold Fit at hf
    simp only [DataW.weights, hu, List.all_cons, Bool.and_eq_true, List.all_append] at hf
    exact fit_all hf.2.1 _ (List.mem_map.2 ⟨i, by simp; omega, rfl⟩)⟩
theorem qDS {α : Type} {k : Kd α} {fs : Array Field} {j off tot : Nat} {f : Field} {Ok : α → Prop} (hf : fs[j]? = some f) (ho : f.offset = off) (hs : off + k.sz = tot) (h : Opens k P f.type Ok) : OpensF k P fs j off tot Ok := by
 intro H enc w spare held n cs xs hcs hxs hx
 have h1 := hx j f hf
 have hj : j < xs.length := by rw [hxs]; exact (Array.getElem?_eq_some_iff.1 hf).1
 rw [List.getElem?_eq_getElem hj] at h1
 obtain ⟨v, hK, hO⟩ := h.2 H enc w spare held n _ _ h1
 rw [ho, h.1, List.take_of_length_le (by rw [List.length_drop]; omega)] at hK
 exact ⟨v, hK, fun hfit => hO (hfit j f _ hf (List.getElem?_eq_getElem hj))⟩
theorem qBG {α β : Type} {a : Kd α} {b : Kd β} {fs : Array Field} {j off tot : Nat} {f : Field} {Oa : α → Prop} {Ob : β → Prop} (hf : fs[j]? = some f) (ho : f.offset = off) (h : Opens a P f.type Oa) (r : OpensF b P fs (j + 1) (off + a.sz) tot Ob) : OpensF (Kd.pair a b) P fs j off tot (fun p => Oa p.1 ∧ Ob p.2) := by
 intro H enc w spare held n cs xs hcs hxs hx
 have h1 := hx j f hf
 have hj : j < xs.length := by rw [hxs]; exact (Array.getElem?_eq_some_iff.1 hf).1
 rw [List.getElem?_eq_getElem hj] at h1
 obtain ⟨v, hK, hO⟩ := h.2 H enc w spare held n _ _ h1
 obtain ⟨u, hK2, hO2⟩ := r H enc w spare held n cs xs hcs hxs hx
 rw [ho, h.1] at hK
 refine ⟨(v, u), ⟨_, _, ?_, hK, hK2⟩, fun hfit => ⟨hO (hfit j f _ hf (List.getElem?_eq_getElem hj)), hO2 hfit⟩⟩
 rw [← List.drop_drop, List.take_append_drop]
theorem qD2 {α β : Type} {k : Kd β} {t : TypeId} {fs : Array Field} {tot : Nat} {Ok : β → Prop} (f : α → β) (g : β → α) (hfg : ∀ x, f (g x) = x) (hu : P.underlying t = some (.struct fs)) (hc : P.cellsOf t = tot) (hk : k.sz = tot) (r : OpensF k P fs 0 0 tot Ok) : Opens (Kd.iso k f) P t (fun v => Ok (f v)) :=
 ⟨by rw [hc, ← hk]; rfl, fun H enc w spare held fuel cs x h => by
  obtain ⟨xs, n, rfl, rfl, hcs, hxs, hx⟩ := DataW.trod_struct hu h
  obtain ⟨v, hK, hO⟩ := r H enc w spare held n cs xs (by rw [hcs, hc]) hxs hx
  refine ⟨g v, ?_, fun hfit => ?_⟩
  ·show k.K w (f (g v)) cs
   rw [hfg]
   rwa [List.drop_zero] at hK
  ·show Ok (f (g v))
   rw [hfg]
   refine hO fun i f' x hf' hx' => List.all_eq_true.2 fun m hm => ?_
   unfold Fit at hfit
   simp only [DataW.weights, hu] at hfit
   refine List.all_eq_true.1 hfit m (DataW.weights_mem_each (j := i) (t := f'.type) (d := x.1) ?_ ?_ m hm)
   ·rw [List.getElem?_map, Array.getElem?_toList, hf']; rfl
   ·rw [List.getElem?_map, hx']; rfl⟩
end Go.Proofs.Ytnliaialemfcaaa.Open
end
section
namespace Go.Proofs.Ytnliaialemfcaaa.PRateFinds
open Go.Proofs.Ytnliaialemfcaaa.Open Go.Proofs.YtnliaialemfcaaaW.PrintWords
def ok32 (x : S32) : Prop := (Lit.int .i64 x.f0).wf = true ∧ (Lit.int .i64 x.f1).wf = true
theorem o32 : Opens k32 Try.prog 32 ok32 := qD2 (Ok := _) (fun x : S32 => (x.f0, x.f1)) (fun p => ⟨p.1, p.2⟩) (fun _ => rfl) Try.underlying32 (by kernel_rfl) rfl (qBG (f := _) rfl rfl (qCL Try.underlying3 (by kernel_rfl)) (qDS (f := _) rfl rfl rfl (qCL Try.underlying3 (by kernel_rfl))))
def ok83 (x : S83) : Prop := x.f0.size ≤ reachBytes ∧ (Lit.int .i64 x.f1).wf = true ∧ True ∧ (Lit.int .i64 x.f3).wf = true ∧ (Lit.int .i64 x.f4).wf = true ∧ ok32 x.f5
theorem o83 : Opens k83 Try.prog 83 ok83 := qD2 (Ok := _) (fun x : S83 => (x.f0, x.f1, x.f2, x.f3, x.f4, x.f5)) (fun p => ⟨p.1, p.2.1, p.2.2.1, p.2.2.2.1, p.2.2.2.2.1, p.2.2.2.2.2⟩) (fun _ => rfl) Try.underlying83 (by kernel_rfl) rfl (qBG (f := _) rfl rfl (qCW Try.underlying9 (by kernel_rfl)) (qBG (f := _) rfl rfl (qCL Try.underlying3 (by kernel_rfl)) (qBG (f := _) rfl rfl (opens_bool Try.underlying4 (by kernel_rfl)) (qBG (f := _) rfl rfl (qCL Try.underlying3 (by kernel_rfl)) (qBG (f := _) rfl rfl (qCL Try.underlying3 (by kernel_rfl)) (qDS (f := _) rfl rfl rfl o32))))))
def ok76 (x : S76) : Prop := (Lit.int .i64 x.f0).wf = true ∧ (Lit.int .i64 x.f1).wf = true
theorem o76 : Opens k76 Try.prog 76 ok76 := qD2 (Ok := _) (fun x : S76 => (x.f0, x.f1)) (fun p => ⟨p.1, p.2⟩) (fun _ => rfl) Try.underlying76 (by kernel_rfl) rfl (qBG (f := _) rfl rfl (qCL Try.underlying3 (by kernel_rfl)) (qDS (f := _) rfl rfl rfl (qCL Try.underlying3 (by kernel_rfl))))
def ok69 (x : S69) : Prop := x.f0.size ≤ reachBytes ∧ (Lit.int .i64 x.f1).wf = true ∧ (Lit.int .i64 x.f2).wf = true ∧ True ∧ (x.f4.length * Try.prog.bytesOf 76 ≤ reachBytes ∧ ∀ y ∈ x.f4, ok76 y)
theorem o69 : Opens k69 Try.prog 69 ok69 := qD2 (Ok := _) (fun x : S69 => (x.f0, x.f1, x.f2, x.f3, x.f4)) (fun p => ⟨p.1, p.2.1, p.2.2.1, p.2.2.2.1, p.2.2.2.2⟩) (fun _ => rfl) Try.underlying69 (by kernel_rfl) rfl (qBG (f := _) rfl rfl (qCW Try.underlying9 (by kernel_rfl)) (qBG (f := _) rfl rfl (qCL Try.underlying3 (by kernel_rfl)) (qBG (f := _) rfl rfl (qCL Try.underlying3 (by kernel_rfl)) (qBG (f := _) rfl rfl (opens_bool Try.underlying4 (by kernel_rfl)) (qDS (f := _) rfl rfl rfl (qDA Try.underlying67 (by kernel_rfl) o76))))))
def ok80 (x : S80) : Prop := (Lit.int .i64 x.f0).wf = true ∧ (x.f1.length * Try.prog.bytesOf 3 ≤ reachBytes ∧ ∀ n ∈ x.f1, (Lit.int .i64 n).wf = true) ∧ (Lit.int .i64 x.f2).wf = true ∧ (Lit.int .i64 x.f3).wf = true ∧ x.f4.size ≤ reachBytes
theorem o80 : Opens k80 Try.prog 80 ok80 := qD2 (Ok := _) (fun x : S80 => (x.f0, x.f1, x.f2, x.f3, x.f4)) (fun p => ⟨p.1, p.2.1, p.2.2.1, p.2.2.2.1, p.2.2.2.2⟩) (fun _ => rfl) Try.underlying80 (by kernel_rfl) rfl (qBG (f := _) rfl rfl (qCL Try.underlying3 (by kernel_rfl)) (qBG (f := _) rfl rfl (qDA Try.underlying78 (by kernel_rfl) (qCL Try.underlying3 (by kernel_rfl))) (qBG (f := _) rfl rfl (qCL Try.underlying3 (by kernel_rfl)) (qBG (f := _) rfl rfl (qCL Try.underlying3 (by kernel_rfl)) (qDS (f := _) rfl rfl rfl (qCW Try.underlying9 (by kernel_rfl)))))))
def ok58 (x : S58) : Prop := x.f0.size ≤ reachBytes ∧ x.f1.size ≤ reachBytes
theorem o58 : Opens k58 Try.prog 58 ok58 := qD2 (Ok := _) (fun x : S58 => (x.f0, x.f1)) (fun p => ⟨p.1, p.2⟩) (fun _ => rfl) Try.underlying58 (by kernel_rfl) rfl (qBG (f := _) rfl rfl (qCW Try.underlying9 (by kernel_rfl)) (qDS (f := _) rfl rfl rfl (qCW Try.underlying9 (by kernel_rfl))))
def ok54 (x : S54) : Prop := x.f0.size ≤ reachBytes ∧ x.f1.size ≤ reachBytes ∧ (x.f2.length * Try.prog.bytesOf 80 ≤ reachBytes ∧ ∀ y ∈ x.f2, ok80 y) ∧ (x.f3.length * Try.prog.bytesOf 80 ≤ reachBytes ∧ ∀ y ∈ x.f3, ok80 y) ∧ (x.f4.length * Try.prog.bytesOf 58 ≤ reachBytes ∧ ∀ y ∈ x.f4, ok58 y) ∧ (Lit.int .i64 x.f5).wf = true
theorem o54 : Opens k54 Try.prog 54 ok54 := qD2 (Ok := _) (fun x : S54 => (x.f0, x.f1, x.f2, x.f3, x.f4, x.f5)) (fun p => ⟨p.1, p.2.1, p.2.2.1, p.2.2.2.1, p.2.2.2.2.1, p.2.2.2.2.2⟩) (fun _ => rfl) Try.underlying54 (by kernel_rfl) rfl (qBG (f := _) rfl rfl (qCW Try.underlying9 (by kernel_rfl)) (qBG (f := _) rfl rfl (qCW Try.underlying9 (by kernel_rfl)) (qBG (f := _) rfl rfl (qDA Try.underlying52 (by kernel_rfl) o80) (qBG (f := _) rfl rfl (qDA Try.underlying52 (by kernel_rfl) o80) (qBG (f := _) rfl rfl (qDA Try.underlying43 (by kernel_rfl) o58) (qDS (f := _) rfl rfl rfl (qCL Try.underlying3 (by kernel_rfl))))))))
def ok48 (x : S48) : Prop := x.f0.size ≤ reachBytes ∧ (Lit.int .i64 x.f1).wf = true ∧ (Lit.int .i64 x.f2).wf = true ∧ (x.f3.length * Try.prog.bytesOf 83 ≤ reachBytes ∧ ∀ y ∈ x.f3, ok83 y) ∧ (x.f4.length * Try.prog.bytesOf 69 ≤ reachBytes ∧ ∀ y ∈ x.f4, ok69 y) ∧ (x.f5.length * Try.prog.bytesOf 54 ≤ reachBytes ∧ ∀ y ∈ x.f5, ok54 y)
theorem o48 : Opens k48 Try.prog 48 ok48 := qD2 (Ok := _) (fun x : S48 => (x.f0, x.f1, x.f2, x.f3, x.f4, x.f5)) (fun p => ⟨p.1, p.2.1, p.2.2.1, p.2.2.2.1, p.2.2.2.2.1, p.2.2.2.2.2⟩) (fun _ => rfl) Try.underlying48 (by kernel_rfl) rfl (qBG (f := _) rfl rfl (qCW Try.underlying9 (by kernel_rfl)) (qBG (f := _) rfl rfl (qCL Try.underlying3 (by kernel_rfl)) (qBG (f := _) rfl rfl (qCL Try.underlying3 (by kernel_rfl)) (qBG (f := _) rfl rfl (qDA Try.underlying44 (by kernel_rfl) o83) (qBG (f := _) rfl rfl (qDA Try.underlying45 (by kernel_rfl) o69) (qDS (f := _) rfl rfl rfl (qDA Try.underlying46 (by kernel_rfl) o54)))))))
def ok25 (x : S25) : Prop := x.f0.size ≤ reachBytes ∧ x.f1.size ≤ reachBytes ∧ (Lit.int .i64 x.f2).wf = true ∧ (Lit.int .i64 x.f3).wf = true
theorem o25 : Opens k25 Try.prog 25 ok25 := qD2 (Ok := _) (fun x : S25 => (x.f0, x.f1, x.f2, x.f3)) (fun p => ⟨p.1, p.2.1, p.2.2.1, p.2.2.2⟩) (fun _ => rfl) Try.underlying25 (by kernel_rfl) rfl (qBG (f := _) rfl rfl (qCW Try.underlying9 (by kernel_rfl)) (qBG (f := _) rfl rfl (qCW Try.underlying9 (by kernel_rfl)) (qBG (f := _) rfl rfl (qCL Try.underlying3 (by kernel_rfl)) (qDS (f := _) rfl rfl rfl (qCL Try.underlying3 (by kernel_rfl))))))
theorem o23 : Opens (Kd.slice 48 k48) Try.prog 23 (fun l => l.length * Try.prog.bytesOf 48 ≤ reachBytes ∧ ∀ x ∈ l, ok48 x) := qDA Try.underlying23 (by kernel_rfl) o48
end Go.Proofs.Ytnliaialemfcaaa.PRateFinds
end
section
namespace Go.Proofs.Ytnliaialemfcaaa.Pure
open Go.RowKit Go.Proofs.YtnliaialemfcaaaW.PrintWords Go.Proofs.YtnliaialemfcaaaW.PrintLast Go.Proofs.YtnliaialemfcaaaW.PrintMore Go.Proofs.Ytnliaialemfcaaa.PRateFinds
def T {α : Type} (g : Nat → Option α) (Q : α → Prop) : Prop := ∃ r, Ev g r ∧ Q r
theorem T.some {α : Type} {r : α} {Q : α → Prop} (h : Q r) : T (fun _ => some r) Q := ⟨r, Ev.now r, h⟩
theorem T.mono {α : Type} {g : Nat → Option α} {Q R : α → Prop} (h : T g Q) (i : ∀ r, Q r → R r) : T g R := by
 obtain ⟨r, h1, h2⟩ := h
 exact ⟨r, h1, i r h2⟩
theorem T.succ {α : Type} {g : Nat → Option α} {Q : α → Prop} (h : T (fun k => g (k + 1)) Q) : T g Q := by
 obtain ⟨r, h1, h2⟩ := h
 exact ⟨r, Ev.step (fun _ => rfl) h1, h2⟩
theorem T.bind {α β : Type} {g : Nat → Option α} {f : Nat → α → Option β} {R : α → Prop} {Q : β → Prop} (h : T g R) (k : ∀ a, R a → T (fun n => f n a) Q) : T (fun n => (g n).bind (f n)) Q := by
 obtain ⟨a, h1, h2⟩ := h
 obtain ⟨r, h3, h4⟩ := k a h2
 exact ⟨r, Ev.bind h1 h3, h4⟩
theorem T.ite {α : Type} {c : Prop} [Decidable c] {a b : Nat → Option α} {Q : α → Prop} (h1 : c → T a Q) (h2 : ¬ c → T b Q) : T (fun k => if c then a k else b k) Q := by
 by_cases h : c
 ·simp only [if_pos h]; exact h1 h
 ·simp only [if_neg h]; exact h2 h
theorem T.pos {α : Type} {c : Prop} [Decidable c] {a b : Nat → Option α} {Q : α → Prop} (h : c) (h1 : T a Q) : T (fun k => if c then a k else b k) Q := by
 simp only [if_pos h]; exact h1
theorem T.neg {α : Type} {c : Prop} [Decidable c] {a b : Nat → Option α} {Q : α → Prop} (h : ¬ c) (h1 : T b Q) : T (fun k => if c then a k else b k) Q := by
 simp only [if_neg h]; exact h1
theorem T.lim {α : Type} {g : Nat → Option α} {Q : α → Prop} (hm : ∀ k, LeO (g k) (g (k + 1))) (h : T g Q) : ∃ r, Gen.lim g = Option.some r ∧ Q r := by
 obtain ⟨r, ⟨K, h1⟩, h2⟩ := h
 exact ⟨r, Gen.lim_eq hm (h1 K (Nat.le_refl _)), h2⟩
theorem w64 {x : Int} (h0 : -9223372036854775808 ≤ x) (h1 : x < 9223372036854775808) : wrap64 x = x := by unfold wrap64; omega
theorem T.loop {σ : Type} {α : Type} {n : Nat} (hn : n < 9223372036854775807) {g : Nat → σ → Int → Option α} {I : Nat → σ → Prop} {Q : α → Prop}
  (hend : ∀ s, I n s → T (fun k => g k s (n : Int)) Q)
  (hstep : ∀ i s, i < n → I i s → (∀ s', I (i + 1) s' → T (fun k => g k s' (wrap64 ((i : Int) + 1))) Q) → T (fun k => g k s (i : Int)) Q) :
  ∀ (d i : Nat) (s : σ), n - i = d → i ≤ n → I i s → T (fun k => g k s (i : Int)) Q
 | 0, i, s, hd, hi, hI => by
  obtain rfl : i = n := by omega
  exact hend s hI
 | d + 1, i, s, hd, hi, hI => by
  refine hstep i s (by omega) hI fun s' hI' => ?_
  rw [w64 (by omega) (by omega)]
  exact T.loop hn hend hstep d (i + 1) s' (by omega) (by omega) hI'
theorem rd48 (l : List S48) (i : Nat) : qA3 l (i : Int) = l.getD i z48 := by simp [qA3]
theorem qDH {α : Type} {l : List α} {i : Nat} (z : α) (h : i < l.length) : l.getD i z ∈ l := by
 rw [List.getD_eq_getElem?_getD, List.getElem?_eq_getElem h]
 exact List.getElem_mem h
structure Lim (b : List S48) : Prop where
 acts : b.length ≤ 8
 arts : ∀ a, a ∈ b → a.f5.length ≤ 60
 tabs : ∀ a, a ∈ b → a.f4.length ≤ 8
 attrs : (b.flatMap fun a => a.f3).length ≤ 40
theorem limits_is (b : List S48) (hb : b.length < 9223372036854775807) (ha : ∀ a, a ∈ b → a.f3.length ≤ 140737488355328) : T (fun k => qBE.f k b) (fun r => r = 0 → Lim b) := by
 unfold qBE.f
 refine T.loop (σ := Int) (g := fun k s i => qBE.l0 k b s b (b.length : Int) i) (n := b.length) hb
  (I := fun i s => (b.length ≤ 8 → s = (((b.take i).flatMap fun a => a.f3).length : Int)) ∧ (∀ j, j < i → (b.getD j z48).f5.length ≤ 60 ∧ (b.getD j z48).f4.length ≤ 8)) ?_ ?_ b.length 0 0 (by omega) (by omega) ⟨fun _ => by simp, fun j hj => absurd hj (by omega)⟩
 ·rintro s ⟨hs, hj⟩
  refine T.succ ?_
  simp only [qBE.l0]
  refine T.neg (by omega) (T.ite (fun _ => T.some (by simp)) fun h8 => T.ite (fun _ => T.some (by simp)) fun h40 => T.some fun _ => ⟨by omega, fun a ham => ?_, fun a ham => ?_, ?_⟩)
  ·obtain ⟨j, hjl, rfl⟩ := List.getElem_of_mem ham
   have := (hj j hjl).1
   rwa [List.getD_eq_getElem?_getD, List.getElem?_eq_getElem hjl] at this
  ·obtain ⟨j, hjl, rfl⟩ := List.getElem_of_mem ham
   have := (hj j hjl).2
   rwa [List.getD_eq_getElem?_getD, List.getElem?_eq_getElem hjl] at this
  ·have := hs (by omega)
   rw [List.take_length] at this
   omega
 ·rintro i s hi ⟨hs, hj⟩ next
  refine T.succ ?_
  simp only [qBE.l0, rd48]
  refine T.pos (by omega) (T.pos (by omega) (T.pos (by omega) (T.ite (fun _ => T.some (by simp)) fun h60 => T.ite (fun _ => T.some (by simp)) fun h8 => next _ ⟨fun hl => ?_, fun j hj' => ?_⟩)))
  ·have h2 : ∀ i, i ≤ b.length → (((b.take i).flatMap fun a => a.f3).length) ≤ i * 140737488355328 := fun i => by
    induction i with
    | zero => simp
    | succ i ih =>
     intro hi
     rw [qE4 _ z48 (by omega), List.length_append]
     have := ih (by omega)
     have := ha _ (qDH z48 (show i < b.length by omega))
     omega
   have h3 := h2 (i + 1) (by omega)
   rw [hs hl]
   rw [qE4 _ z48 hi, List.length_append] at h3 ⊢
   have : (i + 1) * 140737488355328 ≤ 8 * 140737488355328 := Nat.mul_le_mul_right _ (by omega)
   rw [w64 (by omega) (by omega)]
   omega
  ·rcases Nat.lt_or_ge j i with h | h
   ·exact hj j h
   ·obtain rfl : j = i := by omega
    exact ⟨by omega, by omega⟩
def S {α : Type} (o : Option α) (Q : α → Prop) : Prop := ∃ r, o = some r ∧ Q r
theorem S.some {α : Type} {r : α} {Q : α → Prop} (h : Q r) : S (some r) Q := ⟨r, rfl, h⟩
theorem S.mono {α : Type} {o : Option α} {Q R : α → Prop} (h : S o Q) (i : ∀ r, Q r → R r) : S o R := by
 obtain ⟨r, h1, h2⟩ := h
 exact ⟨r, h1, i r h2⟩
theorem S.bind {α β : Type} {o : Option α} {f : α → Option β} {R : α → Prop} {Q : β → Prop} (h : S o R) (k : ∀ a, R a → S (f a) Q) : S (o.bind f) Q := by
 obtain ⟨a, rfl, h2⟩ := h
 exact k a h2
theorem S.ite {α : Type} {c : Prop} [Decidable c] {a b : Option α} {Q : α → Prop} (h1 : c → S a Q) (h2 : ¬ c → S b Q) : S (if c then a else b) Q := by
 by_cases h : c
 ·simp only [if_pos h]; exact h1 h
 ·simp only [if_neg h]; exact h2 h
theorem S.pos {α : Type} {c : Prop} [Decidable c] {a b : Option α} {Q : α → Prop} (h : c) (h1 : S a Q) : S (if c then a else b) Q := by
 simp only [if_pos h]; exact h1
theorem S.neg {α : Type} {c : Prop} [Decidable c] {a b : Option α} {Q : α → Prop} (h : ¬ c) (h1 : S b Q) : S (if c then a else b) Q := by
 simp only [if_neg h]; exact h1
theorem S.T {α : Type} {o : Option α} {Q : α → Prop} (h : S o Q) : T (fun _ => o) Q := by
 obtain ⟨r, rfl, h2⟩ := h
 exact T.some h2
theorem range_S (a : Int) : S (qCG.f a) (fun _ => True) := by
 unfold qCG.f
 repeat' first | exact S.some trivial | refine S.ite (fun _ => ?_) (fun _ => ?_)
theorem unit_S (a b : Int) : S (qCQ.f a b) (fun _ => True) := by
 unfold qCQ.f qDE.f
 refine S.bind (range_S a) fun _ _ => S.bind (R := fun _ => True) ?_ fun _ _ => ?_
 all_goals repeat' first | exact S.some trivial | refine S.ite (fun _ => ?_) (fun _ => ?_)
theorem attr2 (k : Nat) (b : Bool) (x0 : ByteArray) (x1 : Int) (x2 : Bool) (x3 x4 x5 x6 : Int) : S (qBQ.j2 (k + 1) b x0 x1 x2 x3 x4 x5 x6) (fun _ => True) := by
 simp only [qBQ.j2]
 refine S.ite (fun _ => S.some trivial) fun _ => S.bind (unit_S _ _) fun _ _ => ?_
 repeat' first | exact S.some trivial | refine S.ite (fun _ => ?_) (fun _ => ?_)
theorem attr_l (k : Nat) (p q : Int) (x0 : ByteArray) (x1 : Int) (x2 : Bool) (x3 x4 x5 x6 : Int) : S (qBQ.l0 (k + 3) [p, q] 2 0 x0 x1 x2 x3 x4 x5 x6) (fun _ => True) := by
 rw [qBQ.l0]
 refine S.pos (by decide) (S.pos (by decide) (S.pos (by simp) (S.bind (unit_S _ _) fun _ _ => S.ite (fun _ => ?_) fun _ => S.some trivial)))
 rw [show wrap64 (0 + 1) = 1 from w64 (x := 1) (by decide) (by decide), qBQ.l0]
 refine S.pos (by decide) (S.pos (by decide) (S.pos (by simp) (S.bind (unit_S _ _) fun _ _ => S.ite (fun _ => ?_) fun _ => S.some trivial)))
 rw [show wrap64 (1 + 1) = 2 from w64 (x := 2) (by decide) (by decide), qBQ.l0]
 refine S.neg (by decide) ?_
 repeat' first | exact S.some trivial | refine S.ite (fun _ => ?_) (fun _ => ?_)
theorem attr0 (k : Nat) (b : Bool) (x0 : ByteArray) (x1 : Int) (x2 : Bool) (x3 x4 x5 x6 : Int) : S (qBQ.j0 (k + 4) b x0 x1 x2 x3 x4 x5 x6) (fun _ => True) := by
 rw [qBQ.j0]
 refine S.ite (fun _ => S.some trivial) fun _ => S.ite (fun _ => S.ite (fun _ => S.some trivial) fun _ => ?_) fun _ => ?_
 ·exact attr_l k _ _ _ _ _ _ _ _ _
 ·exact S.ite (fun _ => attr2 _ _ _ _ _ _ _ _ _) fun _ => attr2 _ _ _ _ _ _ _ _ _
theorem attr_S (x : S83) : S (attrF x) (fun _ => True) := by
 unfold attrF qBQ.f
 exact S.ite (fun _ => attr0 6 _ _ _ _ _ _ _ _) fun _ => attr0 6 _ _ _ _ _ _ _ _
theorem table_l (x3 x4 x5 x6 : Int) (L : List S76) (hL : L.length ≤ 20) (y0 : ByteArray) (y1 y2 : Int) (y3 : Bool) : ∀ (d i k : Nat), L.length - i = d → i ≤ L.length → 2 * d + 1 ≤ k → S (qAZ.l0 k x3 x4 x5 x6 L (L.length : Int) (i : Int) y0 y1 y2 y3 L) (fun _ => True)
 | 0, i, k, hd, hi, hk => by
  obtain ⟨k, rfl⟩ : ∃ m, k = m + 1 := ⟨k - 1, by omega⟩
  rw [qAZ.l0]
  exact S.neg (by omega) (S.some trivial)
 | d + 1, i, k, hd, hi, hk => by
  obtain ⟨k, rfl⟩ : ∃ m, k = m + 1 + 1 := ⟨k - 2, by omega⟩
  have h2 : ∀ b, S (qAZ.j2 (k + 1) x3 x4 x5 x6 (i : Int) L (L.length : Int) (i : Int) b y0 y1 y2 y3 L (qCK L (i : Int)).f0 (qCK L (i : Int)).f1) (fun _ => True) := fun b => by
   have h3 := table_l x3 x4 x5 x6 L hL y0 y1 y2 y3 d (i + 1) k (by omega) (by omega) (by omega)
   have e : wrap64 ((i : Int) + 1) = ((i + 1 : Nat) : Int) := by rw [w64 (by omega) (by omega)]; rfl
   rw [qAZ.j2, e]
   refine S.ite (fun _ => S.some trivial) fun _ => S.ite (fun h0 => ?_) fun _ => h3
   rw [w64 (by omega) (by omega)]
   exact S.pos (by omega) (S.pos (by omega) (S.ite (fun _ => S.some trivial) fun _ => h3))
  rw [qAZ.l0]
  refine S.pos (by omega) (S.pos (by omega) (S.pos (by omega) ?_))
  repeat' first | exact h2 _ | refine S.ite (fun _ => ?_) (fun _ => ?_)
theorem table_S (t : S69) : S (tableF t) (fun r => r = 0 → t.f4.length ≤ 20) := by
 have hk : S (qD5.f t.f0 t.f1 t.f2 t.f3 t.f4) (fun _ => True) := by
  unfold qD5.f
  repeat' first | exact S.some trivial | refine S.ite (fun _ => ?_) (fun _ => ?_)
 have hj : t.f4.length ≤ 20 → ∀ a b c d, S (qAZ.j0 50 a b c d t.f0 t.f1 t.f2 t.f3 t.f4) (fun r => r = 0 → t.f4.length ≤ 20) := fun hl a b c d => by
  rw [qAZ.j0]
  exact (table_l a b c d t.f4 hl t.f0 t.f1 t.f2 t.f3 t.f4.length 0 49 rfl (Nat.zero_le _) (by omega)).mono fun _ _ _ => hl
 unfold tableF qAZ.f qCM.f
 refine S.bind (R := fun _ => True) (S.some trivial) fun _ _ => S.ite (fun _ => S.bind hk fun _ _ => S.ite (fun _ => S.ite (fun _ => S.some (by simp)) fun _ => S.ite (fun _ => S.some (by simp)) fun h20 => ?_) fun _ => S.some (by simp)) fun _ => S.some (by simp)
 exact S.bind (range_S _) fun _ _ => S.bind (range_S _) fun _ _ => S.ite (fun _ => hj (by omega) _ _ _ _) fun _ => hj (by omega) _ _ _ _
theorem addR_zero {L : List ByteArray} {s : ByteArray} (h : ¬ addR L s ≠ 0) : s ∉ L := by
 intro hs
 simp only [addR, hs, if_true] at h
 split at h <;> simp at h
theorem parts_in_S {α : Type} (nm : α → ByteArray) (ck : α → Option Int) (R : α → Prop) (hck : ∀ x, S (ck x) (fun r => r = 0 → R x)) : ∀ (xs : List α) (L : List ByteArray), L.length + xs.length ≤ 1000 →
  S (qE1 nm ck xs L) (fun p => p.2.length ≤ L.length + xs.length ∧ (p.1 = 0 → (xs.map nm).Nodup ∧ (∀ x, x ∈ xs → nm x ∉ L ∧ R x) ∧ ∀ y, y ∈ L → y ∈ p.2))
 | [], L, h => S.some ⟨by simp, fun _ => ⟨List.nodup_nil, fun x hx => (by cases hx), fun y hy => hy⟩⟩
 | x :: xs, L, h => by
  rw [List.length_cons] at h
  unfold qE1
  refine S.pos (by omega) (S.ite (fun h0 => S.some ⟨by simp <;> omega, fun e => absurd e h0⟩) fun h0 => S.bind (hck x) fun e he => S.ite (fun h1 => S.some ⟨by simp <;> omega, fun e => absurd e h1⟩) fun h1 => ?_)
  refine (parts_in_S nm ck R hck xs (nm x :: L) (by simp; omega)).mono fun p ⟨hp1, hp2⟩ => ⟨by simp at hp1 ⊢; omega, fun hp => ?_⟩
  obtain ⟨n1, n2, n3⟩ := hp2 hp
  refine ⟨?_, fun y hy => ?_, fun y hy => n3 y (List.mem_cons_of_mem _ hy)⟩
  ·rw [List.map_cons, List.nodup_cons]
   refine ⟨fun hm => ?_, n1⟩
   obtain ⟨y, hy, e⟩ := List.mem_map.1 hm
   exact (n2 y hy).1 (by rw [e]; exact List.mem_cons_self ..)
  ·rcases List.mem_cons.1 hy with rfl | hy
   ·exact ⟨addR_zero h0, he (by omega)⟩
   ·exact ⟨fun hm => (n2 y hy).1 (List.mem_cons_of_mem _ hm), (n2 y hy).2⟩
structure Parts (b : List S48) : Prop where
 acts : (b.map fun a => a.f0).Nodup
 tabs : ∀ a, a ∈ b → (a.f4.map fun t => t.f0).Nodup
 steps : ∀ a, a ∈ b → ∀ t, t ∈ a.f4 → t.f4.length ≤ 20
theorem parts_go : ∀ (l : List S48) (A U B : List ByteArray), A.length + l.length ≤ 100 → U.length + (l.flatMap fun a => a.f3).length ≤ 100 → B.length + l.length * 8 ≤ 100 → (∀ a, a ∈ l → a.f4.length ≤ 8) →
  S (qBK.go l A U B) (fun r => r = 0 → Parts l ∧ ∀ a, a ∈ l → a.f0 ∉ A)
 | [], A, U, B, _, _, _, _ => S.some fun _ => ⟨⟨List.nodup_nil, fun a h => (by cases h), fun a h => (by cases h)⟩, fun a h => by cases h⟩
 | a :: l, A, U, B, hA, hU, hB, h4 => by
  rw [List.length_cons] at hA hB
  rw [List.flatMap_cons, List.length_append] at hU
  have h4a := h4 a (List.mem_cons_self ..)
  unfold qBK.go
  refine S.pos (by omega) (S.ite (fun h0 => S.some fun e => absurd e h0) fun h0 => S.ite (fun _ => S.some (by simp)) fun _ => ?_)
  refine S.bind (parts_in_S _ _ (fun _ => True) (fun x => (attr_S x).mono fun _ _ _ => trivial) a.f3 U (by omega)) fun p hp => ?_
  unfold qBK.k1
  refine S.ite (fun h1 => S.some fun e => absurd e h1) fun h1 => S.bind (parts_in_S _ _ (fun t : S69 => t.f4.length ≤ 20) table_S a.f4 B (by omega)) fun q hq => ?_
  unfold qBK.k2
  refine S.ite (fun h2 => S.some fun e => absurd e h2) fun h2 => ?_
  refine (parts_go l (a.f0 :: A) p.2 q.2 (by simp; omega) (by have := hp.1; omega) (by have := hq.1; omega) fun x hx => h4 x (List.mem_cons_of_mem _ hx)).mono fun r hr h => ?_
  obtain ⟨⟨n1, n2, n3⟩, n4⟩ := hr h
  obtain ⟨m1, m2, _⟩ := hq.2 (by omega)
  refine ⟨⟨?_, fun x hx => ?_, fun x hx => ?_⟩, fun x hx => ?_⟩
  ·rw [List.map_cons, List.nodup_cons]
   refine ⟨fun hm => ?_, n1⟩
   obtain ⟨y, hy, e⟩ := List.mem_map.1 hm
   exact n4 y hy (by rw [e]; exact List.mem_cons_self ..)
  ·rcases List.mem_cons.1 hx with rfl | hx
   ·exact m1
   ·exact n2 x hx
  ·rcases List.mem_cons.1 hx with rfl | hx
   ·exact fun t ht => (m2 t ht).2
   ·exact n3 x hx
  ·rcases List.mem_cons.1 hx with rfl | hx
   ·exact addR_zero h0
   ·exact fun hm => n4 x hx (List.mem_cons_of_mem _ hm)
theorem parts_S {b : List S48} (h : Lim b) : S (qBK.f b) (fun r => r = 0 → Parts b) := by
 have h1 := h.acts
 have h2 := h.attrs
 exact (parts_go b [] [] [] (by simp; omega) (by simp; simpa using Nat.le_trans h2 (by omega)) (by simp; omega) h.tabs).mono fun r hr e => (hr e).1
end Go.Proofs.Ytnliaialemfcaaa.Pure
end
section
namespace Go.Proofs.Ytnliaialemfcaaa.Pure
open Go.RowKit Go.Proofs.YtnliaialemfcaaaW.PrintWords Go.Proofs.YtnliaialemfcaaaW.PrintLast Go.Proofs.YtnliaialemfcaaaW.PrintMore Go.Proofs.Ytnliaialemfcaaa.PRateFinds
theorem letter_S (a : Int) : S (qCC.f a) (fun _ => True) := by
 unfold qCC.f
 exact S.ite (fun _ => S.some trivial) fun _ => S.some trivial
theorem inner_S (a : Int) : S (qDQ.f a) (fun _ => True) := by
 unfold qDQ.f qDX.f
 refine S.bind (letter_S a) fun _ _ => S.ite (fun _ => S.some trivial) fun _ => S.bind (R := fun _ => True) ?_ fun _ _ => ?_
 all_goals repeat' first | exact S.some trivial | refine S.ite (fun _ => ?_) (fun _ => ?_)
theorem less_S (a b : ByteArray) : S (cmp_Less_string.f a b) (fun _ => True) := by
 unfold cmp_Less_string.f cmp_isNaN_string.f
 refine S.bind (R := fun _ => True) (S.some trivial) fun _ _ => S.ite (fun _ => S.bind (R := fun _ => True) (S.some trivial) fun _ _ => ?_) fun _ => S.some trivial
 exact S.ite (fun _ => S.some trivial) fun _ => S.some trivial
theorem search_l (L : List ByteArray) (hL : L.length ≤ 1000) (s : ByteArray) : ∀ (d k lo hi : Nat), hi - lo ≤ d → lo ≤ hi → hi ≤ L.length → d + 1 ≤ k → S (qA6.l0 k L s (L.length : Int) (lo : Int) (hi : Int)) (fun _ => True)
 | d, k, lo, hi, hd, hle, hh, hk => by
  obtain ⟨k, rfl⟩ : ∃ m, k = m + 1 := ⟨k - 1, by omega⟩
  rw [qA6.l0]
  refine S.ite (fun hlt => ?_) fun hge => S.ite (fun h1 => ?_) fun _ => S.some trivial
  ·obtain ⟨d, rfl⟩ : ∃ m, d = m + 1 := ⟨d - 1, by omega⟩
   have e : wrap64 (IntKind.u64.wrap (wrap64 ((lo : Int) + (hi : Int))) / 2) = (((lo + hi) / 2 : Nat) : Int) := by
    rw [w64 (x := (lo : Int) + hi) (by omega) (by omega), IntKind.wrap_u64, w64 (by omega) (by omega)]
    omega
   rw [e]
   refine S.pos (by omega) (S.pos (by omega) (S.bind (less_S _ _) fun _ _ => S.ite (fun _ => ?_) fun _ => ?_))
   ·rw [w64 (by omega) (by omega)]
    exact search_l L hL s d k ((lo + hi) / 2 + 1) hi (by omega) (by omega) hh (by omega)
   ·exact search_l L hL s d k lo ((lo + hi) / 2) (by omega) (by omega) (by omega) (by omega)
  ·refine S.pos (by omega) (S.pos (by omega) (S.ite (fun _ => S.some trivial) fun _ => ?_))
   unfold slices_isNaN_string.f
   exact S.bind (R := fun _ => True) (S.some trivial) fun _ _ => S.ite (fun _ => S.bind (R := fun _ => True) (S.some trivial) fun _ _ => S.some trivial) fun _ => S.some trivial
theorem keys_S : S qDY.f (fun l => l.length ≤ 60) := ⟨_, rfl, by decide⟩
theorem name_l (s : ByteArray) (hs : s.size ≤ 20) : ∀ (d i k : Nat), s.size - i = d → i ≤ s.size → d + 100 ≤ k → S (qB8.l0 k s (s.size : Int) (i : Int)) (fun _ => True)
 | 0, i, k, hd, hi, hk => by
  obtain ⟨k, rfl⟩ : ∃ m, k = m + 1 := ⟨k - 1, by omega⟩
  rw [qB8.l0]
  refine S.neg (by omega) (S.bind keys_S fun l hl => S.bind (R := fun _ => True) ?_ fun _ _ => S.some trivial)
  exact search_l l (by omega) s l.length k 0 l.length (by omega) (by omega) (by omega) (by omega)
 | d + 1, i, k, hd, hi, hk => by
  obtain ⟨k, rfl⟩ : ∃ m, k = m + 1 := ⟨k - 1, by omega⟩
  rw [qB8.l0]
  refine S.pos (by omega) (S.pos (by omega) (S.pos (by omega) (S.bind (inner_S _) fun _ _ => S.ite (fun _ => ?_) fun _ => S.some trivial)))
  rw [w64 (by omega) (by omega)]
  exact name_l s hs d (i + 1) k (by omega) (by omega) (by omega)
theorem name_S (s : ByteArray) : S (qB8.f 200 s) (fun _ => True) := by
 have hj : ∀ b, (b = false → s.size ≤ 20) → S (qB8.j0 200 s b) (fun _ => True) := fun b hb => by
  rw [qB8.j0]
  exact S.ite (fun _ => S.some trivial) fun h => name_l s (hb (Bool.eq_false_iff.2 h)) s.size 0 199 rfl (Nat.zero_le _) (by have := hb (Bool.eq_false_iff.2 h); omega)
 unfold qB8.f
 refine S.ite (fun _ => hj _ (by simp)) fun h0 => S.ite (fun _ => hj _ (by simp)) fun h20 => S.pos ?_ (S.bind (letter_S _) fun _ _ => hj _ fun _ => by omega)
 rcases Nat.eq_zero_or_pos s.size with h | h
 ·exfalso
  apply h0
  have : s.toList.length = 0 := by rw [ByteArray.toList_eq]; simpa using h
  exact List.length_eq_zero_iff.1 this
 ·omega
theorem kidsN_le (op : Int) : qF2 op ≤ 3 := by
 unfold qF2
 split
 ·decide
 split
 ·decide
 split
 ·decide
 split
 ·decide
 ·decide
def Node1 (n : S80) (i : Nat) : Prop := 0 ≤ qF2 n.f0 ∧ (n.f1.length : Int) = qF2 n.f0 ∧ ∀ x, x ∈ n.f1 → 0 ≤ x ∧ x < (i : Int)
theorem one_S (n : S80) (i : Nat) : S (qEQ.f n.f0 n.f1 n.f2 n.f3 n.f4 (i : Int)) (fun r => r = 0 → Node1 n i) := by
 unfold qEQ.f
 refine S.ite (fun _ => S.some (by simp)) fun h1 => S.ite (fun _ => S.some (by simp)) fun h2 => S.ite (fun _ => S.some (by simp)) fun h3 => ?_
 have hn : Node1 n i := ⟨by omega, by omega, fun x hx => by
  have h4 : (decide (x < 0) || decide ((i : Int) ≤ x)) = false := by
   cases h5 : (decide (x < 0) || decide ((i : Int) ≤ x))
   ·rfl
   ·exact absurd (List.any_eq_true.2 ⟨x, hx, h5⟩) h3
  simp at h4
  omega⟩
 refine S.mono (Q := fun _ => True) ?_ fun _ _ _ => hn
 refine S.ite (fun _ => S.some trivial) fun _ => S.ite (fun _ => S.some trivial) fun _ => S.ite (fun _ => S.ite (fun _ => S.some trivial) fun _ => unit_S _ _) fun _ => S.ite (fun _ => S.ite (fun _ => S.some trivial) fun _ => S.some trivial) fun _ => S.ite (fun _ => S.bind (name_S _) fun _ _ => S.ite (fun _ => S.some trivial) fun _ => S.some trivial) fun _ => S.some trivial
theorem rd80 (l : List S80) (i : Nat) : qA2 l (i : Int) = l.getD i z80 := by simp [qA2]
theorem index_T (l : List Int) (hl : l.length < 1000) (a : Int) : T (fun k => qAI.f k l a) (fun _ => True) := by
 unfold qAI.f
 refine T.loop (σ := Unit) (g := fun k _ i => qAI.l0 k l a (l.length : Int) i) (n := l.length) (by omega) (I := fun _ _ => True) (fun _ _ => ?_) (fun i _ hi _ next => ?_) l.length 0 () rfl (Nat.zero_le _) trivial
 ·refine T.succ ?_
  simp only [qAI.l0]
  exact T.neg (by omega) (T.some trivial)
 ·refine T.succ ?_
  simp only [qAI.l0]
  exact T.pos (by omega) (T.pos (by omega) (T.pos (by omega) (T.ite (fun _ => T.some trivial) fun _ => next () trivial)))
theorem contains_T (l : List Int) (hl : l.length < 1000) (a : Int) : T (fun k => qAX.f k l a) (fun _ => True) := by
 unfold qAX.f
 exact T.bind (index_T l hl a) fun _ _ => T.some trivial
structure Tree (e : List S80) : Prop where
 pos : 0 < e.length
 le : e.length ≤ 100
 one : ∀ i, i < e.length → Node1 (e.getD i z80) i
theorem tree_T (e : List S80) : T (fun k => qAV.f k e) (fun r => r = 0 → Tree e) := by
 unfold qAV.f
 refine T.ite (fun _ => T.some (by simp)) fun h100 => T.ite (fun _ => T.some (by simp)) fun h0 => T.pos (by omega) (T.pos (by omega) ?_)
 refine T.loop (σ := List Int) (g := fun k s i => qAV.l0 k e s e (e.length : Int) i) (n := e.length) (by omega) (I := fun i s => s.length = e.length ∧ ∀ j, j < i → Node1 (e.getD j z80) j) ?_ ?_ e.length 0 _ rfl (Nat.zero_le _) ⟨by simp, fun j hj => absurd hj (by omega)⟩
 ·rintro s ⟨hs, hj⟩
  refine T.succ ?_
  simp only [qAV.l0]
  refine T.neg (by omega) ?_
  rw [w64 (by omega) (by omega)]
  exact T.pos (by omega) (T.pos (by omega) (T.bind (contains_T _ (by simp; omega) _) fun _ _ => T.ite (fun _ => T.some (by simp)) fun _ => T.some fun _ => ⟨by omega, by omega, hj⟩))
 ·rintro i s hi ⟨hs, hj⟩ next
  refine T.succ ?_
  simp only [qAV.l0, rd80]
  refine T.pos (by omega) (T.pos (by omega) (T.pos (by omega) (T.bind (one_S (e.getD i z80) i).T fun r hr => T.ite (fun h => ?_) fun h => T.some fun e => absurd e h)))
  obtain ⟨n1, n2, n3⟩ := hr h
  have hk3 := kidsN_le (e.getD i z80).f0
  refine T.loop (σ := List Int) (g := fun k s j => qAV.l1 k e s e (e.length : Int) (i : Int) (e.getD i z80).f1 ((e.getD i z80).f1.length : Int) j) (n := (e.getD i z80).f1.length) (by omega) (I := fun _ s => s.length = e.length) ?_ ?_ (e.getD i z80).f1.length 0 s rfl (Nat.zero_le _) hs
  ·intro s hs
   refine T.succ ?_
   simp only [qAV.l1]
   refine T.neg (by omega) (next s ⟨hs, fun j hj' => ?_⟩)
   rcases Nat.lt_or_ge j i with h | h
   ·exact hj j h
   ·obtain rfl : j = i := by omega
    exact hr ‹_›
  ·intro q s hq hs next2
   refine T.succ ?_
   simp only [qAV.l1]
   have hm : rd (e.getD i z80).f1 (q : Int) ∈ (e.getD i z80).f1 := by
    rw [show rd (e.getD i z80).f1 (q : Int) = (e.getD i z80).f1.getD q 0 from by simp [rd]]
    exact qDH 0 hq
   obtain ⟨m1, m2⟩ := n3 _ hm
   refine T.pos (by omega) (T.pos (by omega) (T.pos (by omega) (T.pos (by omega) (T.pos (by omega) (T.bind (R := fun y => y.length = e.length) (T.some (by simpa using hs)) fun y hy => T.ite (fun _ => T.some (by simp)) fun _ => next2 y hy)))))
end Go.Proofs.Ytnliaialemfcaaa.Pure
end
section
namespace Go.Proofs.Ytnliaialemfcaaa.Pure
open Go.RowKit Go.Proofs.YtnliaialemfcaaaW.PrintWords Go.Proofs.YtnliaialemfcaaaW.PrintLast Go.Proofs.YtnliaialemfcaaaW.PrintMore Go.Proofs.Ytnliaialemfcaaa.PRateFinds
theorem either_T (a : Int) (l : List Int) (hl : l.length < 1000) : T (fun k => qAA.f k a l) (fun _ => True) := by
 unfold qAA.f
 refine T.loop (σ := Unit) (g := fun k _ i => qAA.l0 k a l (l.length : Int) i) (n := l.length) (by omega) (I := fun _ _ => True) (fun _ _ => ?_) (fun i _ hi _ next => ?_) l.length 0 () rfl (Nat.zero_le _) trivial
 ·refine T.succ ?_
  simp only [qAA.l0]
  exact T.neg (by omega) (T.some trivial)
 ·refine T.succ ?_
  simp only [qAA.l0]
  exact T.pos (by omega) (T.pos (by omega) (T.pos (by omega) (T.ite (fun _ => T.some trivial) fun _ => next () trivial)))
theorem join_S (a b : Int) : S (qCN.f a b) (fun _ => True) := by
 unfold qCN.f
 repeat' first | exact S.some trivial | refine S.ite (fun _ => ?_) (fun _ => ?_)
theorem sum_T (a b c : Int) : T (fun k => qAW.f k a b c) (fun _ => True) := by
 have h2 : ∀ d, T (fun k => qAW.j2 k a b c d) (fun _ => True) := fun d => by
  refine T.succ ?_
  simp only [qAW.j2]
  repeat' first | exact T.some trivial | refine T.ite (fun _ => ?_) (fun _ => ?_)
 have h1 : ∀ d, T (fun k => qAW.j1 k a b c d) (fun _ => True) := fun d => by
  refine T.succ ?_
  simp only [qAW.j1]
  repeat' first | exact T.some trivial | exact h2 _ | refine T.ite (fun _ => ?_) (fun _ => ?_)
 have h0 : ∀ d, T (fun k => qAW.j0 k a b c d) (fun _ => True) := fun d => by
  refine T.succ ?_
  simp only [qAW.j0]
  repeat' first | exact T.some trivial | exact h1 _ | refine T.ite (fun _ => ?_) (fun _ => ?_)
 unfold qAW.f
 exact T.ite (fun _ => h0 _) fun _ => h0 _
theorem product_T (a b : Int) : T (fun k => qAK.f k a b) (fun _ => True) := by
 have h1 : ∀ d, T (fun k => qAK.j1 k a b d) (fun _ => True) := fun d => by
  refine T.succ ?_
  simp only [qAK.j1]
  repeat' first | exact T.some trivial | refine T.ite (fun _ => ?_) (fun _ => ?_)
 have h0 : ∀ d, T (fun k => qAK.j0 k a b d) (fun _ => True) := fun d => by
  refine T.succ ?_
  simp only [qAK.j0]
  repeat' first | exact T.some trivial | exact h1 _ | refine T.ite (fun _ => ?_) (fun _ => ?_)
 unfold qAK.f
 exact T.bind (either_T _ _ (by simp)) fun _ _ => T.ite (fun _ => T.bind (either_T _ _ (by simp)) fun _ _ => h0 _) fun _ => h0 _
def Ar (op : Int) (n : Nat) : Prop := 0 < op → (op = 4 ∨ op = 16 ∨ op = 17 → 1 ≤ n) ∧ (op = 15 → 3 ≤ n) ∧ (op ≠ 4 → op ≠ 15 → op ≠ 16 → op ≠ 17 → 2 ≤ n)
theorem ar_of {op : Int} {n : Nat} (h : (n : Int) = qF2 op) (h0 : 0 ≤ qF2 op) (h1 : op ≠ 1) (h2 : op ≠ 2) (h3 : op ≠ 3) : Ar op n ∧ 0 ≤ op := by
 unfold qF2 at h h0
 constructor
 ·intro hp
  repeat' split at h
  all_goals refine ⟨?_, ?_, ?_⟩
  all_goals omega
 ·repeat' split at h0
  all_goals omega
theorem kind_T (op : Int) (kk : List Int) (x2 x3 : Int) (x4 : ByteArray) (l : List Int) (y0 : ByteArray) (y1 y2 : Int) (y3 : Bool) (y4 : List S76) (h : Ar op l.length) (hop : 0 ≤ op) : T (fun k => qA7.f k op kk x2 x3 x4 l y0 y1 y2 y3 y4) (fun _ => True) := by
 have eT : ∀ a b, T (fun k => qAA.f k a [b]) (fun _ => True) := fun a b => either_T a [b] (by simp)
 have h3 : ∀ d, (d = true → op = 10 ∨ op = 11) → op ≠ 0 → op ≠ 4 → T (fun k => qA7.j3 k l op d op kk x2 x3 x4 y0 y1 y2 y3 y4) (fun _ => True) := fun d hd g1 g2 => by
  have h := h (by omega)
  refine T.succ ?_
  simp only [qA7.j3]
  refine T.ite (fun c => ?_) fun _ => ?_
  ·have c := hd c
   exact T.pos (by omega) (T.pos (by omega) (T.bind (sum_T _ _ _) fun _ _ => T.some trivial))
  refine T.ite (fun c => T.pos (by omega) (T.pos (by omega) (T.bind (product_T _ _) fun _ _ => T.some trivial))) fun _ => ?_
  refine T.ite (fun c => T.pos (by omega) (T.pos (by omega) (T.bind (join_S _ _).T fun _ _ => T.ite (fun _ => T.pos (by omega) (T.bind (eT _ _) fun _ _ => T.some trivial)) fun _ => T.some trivial))) fun _ => ?_
  refine T.ite (fun c => T.pos (by omega) (T.bind (eT _ _) fun _ _ => T.some trivial)) fun _ => ?_
  refine T.ite (fun c => T.pos (by omega) (T.bind (eT _ _) fun _ _ => T.some trivial)) fun _ => ?_
  exact T.pos (by omega) (T.bind (eT _ _) fun _ _ => T.ite (fun _ => T.pos (by omega) (T.bind (eT _ _) fun _ _ => T.some trivial)) fun _ => T.some trivial)
 have h2 : ∀ d, (d = true → op = 13 ∨ op = 14) → op ≠ 0 → op ≠ 4 → T (fun k => qA7.j2 k l op d op kk x2 x3 x4 y0 y1 y2 y3 y4) (fun _ => True) := fun d hd g1 g2 => by
  have h := h (by omega)
  refine T.succ ?_
  simp only [qA7.j2]
  refine T.ite (fun c => ?_) fun _ => T.ite (fun c => h3 _ (fun _ => .inl c) g1 g2) fun _ => h3 _ (fun e => .inr (beq_iff_eq.1 e)) g1 g2
  have c := hd c
  exact T.pos (by omega) (T.pos (by omega) (T.bind (join_S _ _).T fun _ _ => T.ite (fun _ => T.some trivial) fun _ => T.some trivial))
 have h1 : ∀ d, (d = true → op = 7 ∨ op = 8) → op ≠ 0 → op ≠ 4 → T (fun k => qA7.j1 k l op d op kk x2 x3 x4 y0 y1 y2 y3 y4) (fun _ => True) := fun d hd g1 g2 => by
  have h := h (by omega)
  refine T.succ ?_
  simp only [qA7.j1]
  refine T.ite (fun c => ?_) fun _ => T.ite (fun c => h2 _ (fun _ => .inl c) g1 g2) fun _ => h2 _ (fun e => .inr (beq_iff_eq.1 e)) g1 g2
  have c := hd c
  exact T.pos (by omega) (T.pos (by omega) (T.bind (join_S _ _).T fun _ _ => T.ite (fun _ => T.some trivial) fun _ => T.some trivial))
 have h0 : ∀ d, (d = true → op = 5 ∨ op = 6) → op ≠ 0 → op ≠ 4 → T (fun k => qA7.j0 k l op d op kk x2 x3 x4 y0 y1 y2 y3 y4) (fun _ => True) := fun d hd g1 g2 => by
  have h := h (by omega)
  refine T.succ ?_
  simp only [qA7.j0]
  refine T.ite (fun c => ?_) fun _ => T.ite (fun c => ?_) fun _ => T.ite (fun c => h1 _ (fun _ => .inl c) g1 g2) fun _ => h1 _ (fun e => .inr (beq_iff_eq.1 e)) g1 g2
  ·have c := hd c
   exact T.pos (by omega) (T.bind (eT _ _) fun _ _ => T.ite (fun _ => T.pos (by omega) (T.bind (eT _ _) fun _ _ => T.some trivial)) fun _ => T.some trivial)
  ·exact T.pos (by omega) (T.pos (by omega) (T.bind (join_S _ _).T fun _ _ => T.some trivial))
 unfold qA7.f
 refine T.ite (fun _ => T.some trivial) fun g1 => T.ite (fun c => ?_) fun g2 => T.ite (fun c => h0 _ (fun _ => .inl c) g1 g2) fun _ => h0 _ (fun e => .inr (beq_iff_eq.1 e)) g1 g2
 have h := h (by omega)
 exact T.pos (by omega) (T.bind (eT _ _) fun _ _ => T.some trivial)
structure Sz (b : List S48) : Prop where
 acts : b.length < 9223372036854775807
 attrs : ∀ a, a ∈ b → a.f3.length < 9223372036854775807
 tabs : ∀ a, a ∈ b → a.f4.length < 9223372036854775807
 arts : ∀ a, a ∈ b → a.f5.length < 9223372036854775807
 steps : ∀ a, a ∈ b → ∀ t, t ∈ a.f4 → t.f4.length * 16 ≤ 140737488355328
theorem kattr_T (b : List S48) (hb : Sz b) (s : ByteArray) : T (fun k => qB0.f k b s) (fun _ => True) := by
 unfold qB0.f
 refine T.loop (σ := Unit) (g := fun k _ i => qB0.l0 k s b (b.length : Int) i) (n := b.length) hb.acts (I := fun _ _ => True) (fun _ _ => ?_) (fun i _ hi _ next => ?_) b.length 0 () rfl (Nat.zero_le _) trivial
 ·refine T.succ ?_
  simp only [qB0.l0]
  exact T.neg (by omega) (T.some trivial)
 ·refine T.succ ?_
  simp only [qB0.l0, rd48]
  refine T.pos (by omega) (T.pos (by omega) (T.pos (by omega) ?_))
  refine T.loop (σ := Unit) (g := fun k _ j => qB0.l1 k s b (b.length : Int) (i : Int) (b.getD i z48).f3 ((b.getD i z48).f3.length : Int) j) (n := (b.getD i z48).f3.length) (hb.attrs _ (qDH z48 hi)) (I := fun _ _ => True) (fun _ _ => ?_) (fun j _ hj _ next2 => ?_) (b.getD i z48).f3.length 0 () rfl (Nat.zero_le _) trivial
  ·refine T.succ ?_
   simp only [qB0.l1]
   exact T.neg (by omega) (next () trivial)
  ·refine T.succ ?_
   simp only [qB0.l1]
   exact T.pos (by omega) (T.pos (by omega) (T.pos (by omega) (T.ite (fun _ => T.some trivial) fun _ => next2 () trivial)))
theorem looked_T (b : List S48) (hb : Sz b) (x0 : Int) (x1 : List Int) (x2 x3 : Int) (x4 : ByteArray) : T (fun k => qAO.f k b x0 x1 x2 x3 x4) (fun _ => True) := by
 have h1 : ∀ c d, T (fun k => qAO.j1 k c d x0 x1 x2 x3 x4) (fun _ => True) := fun c d => by
  refine T.succ ?_
  simp only [qAO.j1]
  repeat' first | exact T.some trivial | refine T.ite (fun _ => ?_) (fun _ => ?_)
 have h0 : ∀ c d, T (fun k => qAO.j0 k c d x0 x1 x2 x3 x4) (fun _ => True) := fun c d => by
  refine T.succ ?_
  simp only [qAO.j0]
  repeat' first | exact T.some trivial | exact h1 _ _ | refine T.ite (fun _ => ?_) (fun _ => ?_)
 unfold qAO.f qC4.f
 refine T.bind (kattr_T b hb x4) fun r _ => T.ite (fun _ => T.ite (fun _ => T.bind (R := fun _ => True) ?_ fun _ _ => h0 _ _) fun _ => h0 _ _) fun _ => T.some trivial
 exact T.ite (fun _ => T.some trivial) fun _ => T.some trivial
theorem find_T (l : List S69) (hl : l.length < 9223372036854775807) (s : ByteArray) : T (fun k => qBI.f k l s) (fun _ => True) := by
 unfold qBI.f
 refine T.loop (σ := Unit) (g := fun k _ i => qBI.l0 k s l (l.length : Int) i) (n := l.length) hl (I := fun _ _ => True) (fun _ _ => ?_) (fun i _ hi _ next => ?_) l.length 0 () rfl (Nat.zero_le _) trivial
 ·refine T.succ ?_
  simp only [qBI.l0]
  exact T.neg (by omega) (T.some trivial)
 ·refine T.succ ?_
  simp only [qBI.l0]
  exact T.pos (by omega) (T.pos (by omega) (T.pos (by omega) (T.ite (fun _ => T.some trivial) fun _ => next () trivial)))
theorem rd69 (l : List S69) (i : Nat) : qAL l (i : Int) = l.getD i z69 := by simp [qAL]
theorem tables_T (b : List S48) (hb : Sz b) (hL : b.length ≤ 8) (h4 : ∀ a, a ∈ b → a.f4.length ≤ 8) : T (fun k => qAP.f k b) (fun r => r.length ≤ 64) := by
 unfold qAP.f
 refine T.loop (σ := List S69) (g := fun k s i => qAP.l0 k s b (b.length : Int) i) (n := b.length) hb.acts (I := fun i s => s.length ≤ i * 8) (fun s hs => ?_) (fun i s hi hs next => ?_) b.length 0 [] rfl (Nat.zero_le _) (by simp)
 ·refine T.succ ?_
  simp only [qAP.l0]
  exact T.neg (by omega) (T.some (by omega))
 ·refine T.succ ?_
  simp only [qAP.l0, rd48]
  have hm := qDH z48 hi
  have h4i := h4 _ hm
  refine T.pos (by omega) (T.pos (by omega) (T.pos (by omega) ?_))
  refine T.loop (σ := List S69) (g := fun k s j => qAP.l1 k s b (b.length : Int) (i : Int) (b.getD i z48).f4 ((b.getD i z48).f4.length : Int) j) (n := (b.getD i z48).f4.length) (hb.tabs _ hm) (I := fun j s => s.length ≤ i * 8 + j) (fun s hs => ?_) (fun j s hj hs next2 => ?_) (b.getD i z48).f4.length 0 s rfl (Nat.zero_le _) hs
  ·refine T.succ ?_
   simp only [qAP.l1]
   exact T.neg (by omega) (next s (by omega))
  ·refine T.succ ?_
   simp only [qAP.l1, rd69]
   refine T.pos (by omega) (T.pos (by omega) (T.pos (by omega) (T.bind (R := fun _ => True) ?_ fun _ _ => T.pos (by omega) (next2 _ (by simp; omega)))))
   unfold qCR.f
   exact T.pos (hb.steps _ hm _ (qDH z69 hj)) (T.some trivial)
end Go.Proofs.Ytnliaialemfcaaa.Pure
end
section
namespace Go.Proofs.Ytnliaialemfcaaa.Pure
open Go.RowKit Go.Proofs.YtnliaialemfcaaaW.PrintWords Go.Proofs.YtnliaialemfcaaaW.PrintLast Go.Proofs.YtnliaialemfcaaaW.PrintMore Go.Proofs.Ytnliaialemfcaaa.PRateFinds
theorem unitary_S (a : Int) : S (qC4.f a) (fun _ => True) := by
 unfold qC4.f
 exact S.ite (fun _ => S.some trivial) fun _ => S.some trivial
theorem of_T (b : List S48) (hb : Sz b) (hL : b.length ≤ 8) (h4 : ∀ a, a ∈ b → a.f4.length ≤ 8) (e : List S80) : T (fun k => qAF.f k b e) (fun r => r.2 = 0 → Tree e) := by
 unfold qAF.f
 refine T.bind (tree_T e) fun r hr => T.ite (fun h => ?_) fun h => T.some fun e => absurd e h
 have ht := hr h
 have hn := ht.le
 refine T.pos (by omega) (T.pos (by omega) (T.mono (Q := fun _ => True) ?_ fun _ _ _ => ht))
 refine T.loop (σ := List Int) (g := fun k s i => qAF.l0 k b e s e (e.length : Int) i) (n := e.length) (by omega) (I := fun _ s => s.length = e.length) (fun s hs => ?_) (fun i s hi hs next => ?_) e.length 0 _ rfl (Nat.zero_le _) (by simp)
 ·refine T.succ ?_
  simp only [qAF.l0]
  refine T.neg (by omega) ?_
  have := ht.pos
  rw [w64 (by omega) (by omega)]
  exact T.pos (by omega) (T.pos (by omega) (T.some trivial))
 ·obtain ⟨n0, n1, n2⟩ := ht.one i hi
  have put : ∀ v : Int, T (fun k => qAF.l0 k b e (s.set i v) e (e.length : Int) (wrap64 ((i : Int) + 1))) (fun _ => True) := fun v => next _ (by simpa using hs)
  have hk : ∀ (l : List Int) (y0 : ByteArray) (y1 y2 : Int) (y3 : Bool) (y4 : List S76), (l.length : Int) = qF2 (e.getD i z80).f0 → (e.getD i z80).f0 ≠ 1 → (e.getD i z80).f0 ≠ 2 → (e.getD i z80).f0 ≠ 3 → T (fun k => (qA7.f k (e.getD i z80).f0 (e.getD i z80).f1 (e.getD i z80).f2 (e.getD i z80).f3 (e.getD i z80).f4 l y0 y1 y2 y3 y4).bind fun bt => if bt.2 = true then (if 0 ≤ (i : Int) then (if (i : Int) < (s.length : Int) then qAF.l0 k b e (s.set (i : Int).toNat bt.1) e (e.length : Int) (wrap64 ((i : Int) + 1)) else none) else none) else some (0, 8)) (fun _ => True) := fun l y0 y1 y2 y3 y4 hl g1 g2 g3 => by
   obtain ⟨a1, a2⟩ := ar_of hl n0 g1 g2 g3
   refine T.bind (kind_T _ _ _ _ _ l y0 y1 y2 y3 y4 a1 a2) fun v _ => T.ite (fun _ => T.pos (by omega) (T.pos (by omega) ?_)) fun _ => T.some trivial
   rw [Int.toNat_natCast]
   exact put _
  have hj : ∀ c, (c = false → (e.getD i z80).f0 ≠ 1 ∧ (e.getD i z80).f0 ≠ 2 ∧ (e.getD i z80).f0 ≠ 3) → T (fun k => qAF.j1 k b e s (i : Int) e (e.length : Int) (i : Int) c (e.getD i z80).f0 (e.getD i z80).f1 (e.getD i z80).f2 (e.getD i z80).f3 (e.getD i z80).f4) (fun _ => True) := fun c hc => by
   refine T.succ ?_
   simp only [qAF.j1]
   refine T.ite (fun _ => T.bind (looked_T b hb _ _ _ _ _) fun v _ => T.ite (fun _ => T.pos (by omega) (T.pos (by omega) ?_)) fun _ => T.some trivial) fun hcf => ?_
   ·rw [Int.toNat_natCast]
    exact put _
   obtain ⟨g1, g2, g3⟩ := hc (Bool.eq_false_iff.2 hcf)
   have hk3 := kidsN_le (e.getD i z80).f0
   refine T.loop (σ := List Int) (g := fun k l j => qAF.l1 k b e s (i : Int) l e (e.length : Int) (i : Int) (e.getD i z80).f1 ((e.getD i z80).f1.length : Int) j (e.getD i z80).f0 (e.getD i z80).f1 (e.getD i z80).f2 (e.getD i z80).f3 (e.getD i z80).f4) (n := (e.getD i z80).f1.length) (by omega) (I := fun j l => l.length = j) (fun l hl => ?_) (fun j l hj hl next2 => ?_) (e.getD i z80).f1.length 0 [] rfl (Nat.zero_le _) rfl
   ·refine T.succ ?_
    simp only [qAF.l1]
    have hj3 : ∀ (d : Bool) (y0 : ByteArray) (y1 y2 : Int) (y3 : Bool) (y4 : List S76), T (fun k => qAF.j3 k b e s (i : Int) l e (e.length : Int) (i : Int) d (e.getD i z80).f0 (e.getD i z80).f1 (e.getD i z80).f2 (e.getD i z80).f3 (e.getD i z80).f4 y0 y1 y2 y3 y4) (fun _ => True) := fun d y0 y1 y2 y3 y4 => by
     refine T.succ ?_
     simp only [qAF.j3]
     exact T.ite (fun _ => T.some trivial) fun _ => hk l _ _ _ _ _ (by omega) g1 g2 g3
    refine T.neg (by omega) (T.ite (fun _ => ?_) fun _ => hk l _ _ _ _ _ (by omega) g1 g2 g3)
    refine T.bind (tables_T b hb hL h4) fun tt htt => T.bind (find_T tt (by omega) _) fun r _ => T.ite (fun _ => ?_) fun _ => T.some trivial
    exact T.bind (unitary_S _).T fun _ _ => T.ite (fun _ => T.bind (unitary_S _).T fun _ _ => hj3 _ _ _ _ _ _) fun _ => hj3 _ _ _ _ _ _
   ·refine T.succ ?_
    simp only [qAF.l1]
    have hm : rd (e.getD i z80).f1 (j : Int) ∈ (e.getD i z80).f1 := by
     rw [show rd (e.getD i z80).f1 (j : Int) = (e.getD i z80).f1.getD j 0 from by simp [rd]]
     exact qDH 0 hj
    obtain ⟨m1, m2⟩ := n2 _ hm
    exact T.pos (by omega) (T.pos (by omega) (T.pos (by omega) (T.pos (by omega) (T.pos (by omega) (T.pos (by omega) (next2 _ (by simp; omega)))))))
  refine T.succ ?_
  simp only [qAF.l0, rd80]
  refine T.pos (by omega) (T.pos (by omega) (T.pos (by omega) (T.ite (fun _ => hj _ (by simp)) fun g1 => T.ite (fun _ => hj _ (by simp)) fun g2 => hj _ fun g3 => ⟨g1, g2, fun e => ?_⟩)))
  rw [e] at g3
  cases g3
theorem Attr_T (b : List S48) (hb : Sz b) (s : ByteArray) : T (fun k => qB2.f k b s) (fun _ => True) := by
 unfold qB2.f
 refine T.loop (σ := Unit) (g := fun k _ i => qB2.l0 k s b (b.length : Int) i) (n := b.length) hb.acts (I := fun _ _ => True) (fun _ _ => ?_) (fun i _ hi _ next => ?_) b.length 0 () rfl (Nat.zero_le _) trivial
 ·refine T.succ ?_
  simp only [qB2.l0]
  exact T.neg (by omega) (T.some trivial)
 ·refine T.succ ?_
  simp only [qB2.l0, rd48]
  refine T.pos (by omega) (T.pos (by omega) (T.pos (by omega) ?_))
  refine T.loop (σ := Unit) (g := fun k _ j => qB2.l1 k s b (b.length : Int) (i : Int) (b.getD i z48).f3 ((b.getD i z48).f3.length : Int) j) (n := (b.getD i z48).f3.length) (hb.attrs _ (qDH z48 hi)) (I := fun _ _ => True) (fun _ _ => ?_) (fun j _ hj _ next2 => ?_) (b.getD i z48).f3.length 0 () rfl (Nat.zero_le _) trivial
  ·refine T.succ ?_
   simp only [qB2.l1]
   exact T.neg (by omega) (next () trivial)
  ·refine T.succ ?_
   simp only [qB2.l1]
   exact T.pos (by omega) (T.pos (by omega) (T.pos (by omega) (T.ite (fun _ => T.some trivial) fun _ => next2 () trivial)))
def Art (x : S54) : Prop := x.f2.length ≤ 100 ∧ x.f3.length ≤ 100 ∧ x.f4.length ≤ 8
theorem article_S (b : List S48) (hb : Sz b) (hL : b.length ≤ 8) (h4 : ∀ a, a ∈ b → a.f4.length ≤ 8) (x : S54) : S (articleF b x) (fun r => r = 0 → Art x) := by
 have h0 : ∀ d, T (fun k => qBB.j0 k b d x.f0 x.f1 x.f2 x.f3 x.f4 x.f5) (fun r => r = 0 → Art x) := fun d => by
  refine T.succ ?_
  simp only [qBB.j0]
  refine T.ite (fun _ => T.some (by simp)) fun _ => T.ite (fun _ => T.some (by simp)) fun h8 => T.bind (Attr_T b hb _) fun v _ => T.ite (fun _ => T.ite (fun _ => T.some (by simp)) fun _ => T.ite (fun _ => ?_) fun hc => ?_) fun _ => T.some (by simp)
  ·refine T.bind (of_T b hb hL h4 _) fun u hu => T.ite (fun g => T.ite (fun _ => ?_) fun _ => T.some (by simp)) fun g => T.some fun e => absurd e g
   have t1 := hu g
   exact T.bind (of_T b hb hL h4 _) fun z hz => T.ite (fun g => T.ite (fun _ => T.some fun _ => ⟨t1.le, (hz g).le, by omega⟩) fun _ => T.some (by simp)) fun g => T.some fun e => absurd e g
  ·exact T.bind (of_T b hb hL h4 _) fun z hz => T.ite (fun g => T.ite (fun _ => T.some fun _ => ⟨by omega, (hz g).le, by omega⟩) fun _ => T.some (by simp)) fun g => T.some fun e => absurd e g
 unfold articleF
 refine T.lim (fun k => qBB.mono _ _ _ _ _ _ _ _) ?_
 unfold qBB.f
 exact T.ite (fun _ => h0 _) fun _ => h0 _
end Go.Proofs.Ytnliaialemfcaaa.Pure
end
section
namespace Go.Proofs.Ytnliaialemfcaaa.Pure
open Go.RowKit Go.Proofs.YtnliaialemfcaaaW.PrintWords Go.Proofs.YtnliaialemfcaaaW.PrintLast Go.Proofs.YtnliaialemfcaaaW.PrintMore Go.Proofs.Ytnliaialemfcaaa.PRateFinds
def Sm (n : Nat) (l : List ByteArray) : Prop := l.length ≤ n ∧ ∀ s, s ∈ l → s.size ≤ maxLen
theorem Sm.cast {n : Nat} {l : List ByteArray} (h : Sm n l) {m : Nat} (hm : n ≤ m) : Sm m l := ⟨Nat.le_trans h.1 hm, h.2⟩
theorem Sm.add {n : Nat} {l : List ByteArray} (h : Sm n l) {s : ByteArray} (hs : s.size ≤ maxLen) : Sm (n + 1) (l ++ [s]) := ⟨by have := h.1; simp; omega, fun x hx => by
 rcases List.mem_append.1 hx with hx | hx
 ·exact h.2 x hx
 ·rw [List.mem_singleton.1 hx]; exact hs⟩
theorem ofB_all {n : Nat} {l : List ByteArray} (h : Sm n l) {m : List (List UInt8)} (hl : m.length ≤ l.length) (hm : ∀ x, x ∈ m → x ∈ toB l) : Sm n (ofB m) := by
 refine ⟨by rw [ofB_len]; exact Nat.le_trans hl h.1, fun s hs => ?_⟩
 obtain ⟨x, hx, rfl⟩ := List.mem_map.1 hs
 obtain ⟨y, hy, rfl⟩ := List.mem_map.1 (hm x hx)
 have := h.2 y hy
 simpa using this
theorem sort_S {n : Nat} {l : List ByteArray} (h : Sm n l) (hn : n < 4611686018427387904) : S (qCZ.f l) (Sm n) := by
 unfold qCZ.f
 refine S.pos (Nat.lt_of_le_of_lt h.1 hn) (S.some (ofB_all h (by simp [qEU]) fun x hx => ?_))
 exact List.mem_mergeSort.1 hx
theorem compact_mem {α : Type} [Inhabited α] [DecidableEq α] (zs : List α) (x : α) (h : x ∈ Lib.compact zs) : x ∈ zs := by
 unfold Lib.compact Lib.compactUpTo at h
 obtain ⟨j, hj, rfl⟩ := List.mem_map.1 h
 have hj' := List.mem_range.1 (List.mem_filter.1 hj).1
 rw [getElem!_pos _ _ (by simpa using hj')]
 simp
theorem compact_S {n : Nat} {l : List ByteArray} (h : Sm n l) (hn : n < 4611686018427387904) : S (qCT.f l) (Sm n) := by
 unfold qCT.f
 refine S.pos (Nat.lt_of_le_of_lt h.1 hn) (S.some (ofB_all h ?_ fun x hx => compact_mem _ x hx))
 unfold Lib.compact Lib.compactUpTo
 rw [List.length_map]
 exact Nat.le_trans (List.length_filter_le _ _) (by simp [qEU])
theorem names_T (e : List S80) (he : e.length ≤ 100) (hs : ∀ n, n ∈ e → n.f4.size ≤ maxLen) : T (fun k => qAT.f k e) (fun r => Sm 100 r.1 ∧ Sm 100 r.2) := by
 unfold qAT.f
 refine T.loop (σ := List ByteArray × List ByteArray) (g := fun k s i => qAT.l0 k s.1 s.2 e (e.length : Int) i) (n := e.length) (by omega) (I := fun i s => Sm i s.1 ∧ Sm i s.2) ?_ ?_ e.length 0 ([], []) rfl (Nat.zero_le _) ⟨⟨by simp, fun s hs => by cases hs⟩, ⟨by simp, fun s hs => by cases hs⟩⟩
 ·rintro ⟨s1, s2⟩ ⟨h1, h2⟩
  refine T.succ ?_
  simp only [qAT.l0]
  exact T.neg (by omega) (T.bind (sort_S (h1.cast he) (by omega)).T fun a ha => T.bind (sort_S (h2.cast he) (by omega)).T fun b hb => T.bind (compact_S ha (by omega)).T fun c hc => T.bind (compact_S hb (by omega)).T fun d hd => T.some ⟨hc, hd⟩)
 ·rintro i ⟨s1, s2⟩ hi ⟨h1, h2⟩ next
  have hn := hs _ (qDH z80 hi)
  have l1 : s1.length ≤ i := h1.1
  have l2 : s2.length ≤ i := h2.1
  have hj : ∀ d x0 x1 x2 x3, T (fun k => qAT.j1 k s1 s2 e (e.length : Int) (i : Int) (e.getD i z80).f0 d x0 x1 x2 x3 (e.getD i z80).f4) (fun r => Sm 100 r.1 ∧ Sm 100 r.2) := fun d x0 x1 x2 x3 => by
   refine T.succ ?_
   simp only [qAT.j1]
   refine T.ite (fun _ => T.pos (by omega) (next (s1 ++ [(e.getD i z80).f4], s2) ⟨h1.add hn, h2.cast (by omega)⟩)) fun _ => T.ite (fun _ => T.pos (by omega) (next (s1, s2 ++ [(e.getD i z80).f4]) ⟨h1.cast (by omega), h2.add hn⟩)) fun _ => next (s1, s2) ⟨h1.cast (by omega), h2.cast (by omega)⟩
  refine T.succ ?_
  simp only [qAT.l0, rd80]
  exact T.pos (by omega) (T.pos (by omega) (T.pos (by omega) (T.ite (fun _ => hj _ _ _ _ _) fun _ => T.ite (fun _ => hj _ _ _ _ _) fun _ => hj _ _ _ _ _)))
structure Sx (b : List S48) : Prop extends Sz b where
 aname : ∀ a, a ∈ b → a.f0.size ≤ maxLen
 xname : ∀ a, a ∈ b → ∀ x, x ∈ a.f5 → x.f0.size ≤ maxLen ∧ x.f1.size ≤ maxLen
 refs : ∀ a, a ∈ b → ∀ x, x ∈ a.f5 → ∀ r, r ∈ x.f4 → r.f0.size ≤ maxLen ∧ r.f1.size ≤ maxLen
 cond : ∀ a, a ∈ b → ∀ x, x ∈ a.f5 → ∀ n, n ∈ x.f2 → n.f4.size ≤ maxLen ∧ n.f1.length * 8 ≤ 140737488355328
 then_ : ∀ a, a ∈ b → ∀ x, x ∈ a.f5 → ∀ n, n ∈ x.f3 → n.f4.size ≤ maxLen ∧ n.f1.length * 8 ≤ 140737488355328
theorem copy_T (e : List S80) (he : e.length ≤ 100) (hk : ∀ n, n ∈ e → n.f1.length * 8 ≤ 140737488355328) : T (fun k => qBS.f k e) (fun _ => True) := by
 unfold qBS.f
 refine T.loop (σ := List S80) (g := fun k s i => qBS.l0 k s e (e.length : Int) i) (n := e.length) (by omega) (I := fun i s => s.length = i) (fun s hs => ?_) (fun i s hi hs next => ?_) e.length 0 [] rfl (Nat.zero_le _) rfl
 ·refine T.succ ?_
  simp only [qBS.l0]
  exact T.neg (by omega) (T.some trivial)
 ·refine T.succ ?_
  simp only [qBS.l0, rd80]
  refine T.pos (by omega) (T.pos (by omega) (T.pos (by omega) (T.bind (R := fun _ => True) ?_ fun _ _ => T.pos (by omega) (next _ (by simp; omega)))))
  unfold qCU.f
  exact T.pos (hk _ (qDH z80 hi)) (T.some trivial)
theorem rd54 (l : List S54) (i : Nat) : qAY l (i : Int) = l.getD i z54 := by simp [qAY]
def Arts (b : List S48) : Prop := ∀ a, a ∈ b → ∀ x, x ∈ a.f5 → Art x
theorem Article_T (b : List S48) (hb : Sx b) (hA : Arts b) (s t : ByteArray) : T (fun k => qAR.f k b s t) (fun _ => True) := by
 unfold qAR.f
 refine T.loop (σ := Unit) (g := fun k _ i => qAR.l0 k b (b.length : Int) i s t) (n := b.length) hb.acts (I := fun _ _ => True) (fun _ _ => ?_) (fun i _ hi _ next => ?_) b.length 0 () rfl (Nat.zero_le _) trivial
 ·refine T.succ ?_
  simp only [qAR.l0]
  exact T.neg (by omega) (T.some trivial)
 ·refine T.succ ?_
  simp only [qAR.l0, rd48]
  have hm := qDH z48 hi
  refine T.pos (by omega) (T.pos (by omega) (T.pos (by omega) ?_))
  generalize hy : b.getD i z48 = y at *
  refine T.loop (σ := Unit) (g := fun k _ j => qAR.l1 k b (b.length : Int) (i : Int) y.f5 (y.f5.length : Int) j s t y.f0 y.f1 y.f2 y.f3 y.f4 y.f5) (n := y.f5.length) (hb.arts _ hm) (I := fun _ _ => True) (fun _ _ => ?_) (fun j _ hj _ next2 => ?_) y.f5.length 0 () rfl (Nat.zero_le _) trivial
  ·refine T.succ ?_
   simp only [qAR.l1]
   exact T.neg (by omega) (next () trivial)
  ·refine T.succ ?_
   simp only [qAR.l1, rd54]
   have hx := qDH z54 hj
   obtain ⟨a1, a2, a3⟩ := hA _ hm _ hx
   refine T.pos (by omega) (T.pos (by omega) (T.pos (by omega) (T.ite (fun _ => T.ite (fun _ => ?_) fun _ => next2 () trivial) fun _ => next2 () trivial)))
   refine T.bind (R := fun _ => True) ?_ fun _ _ => T.some trivial
   unfold qB3.f qC3.f
   exact T.bind (copy_T _ a1 fun n hn => (hb.cond _ hm _ hx n hn).2) fun _ _ => T.bind (copy_T _ a2 fun n hn => (hb.then_ _ hm _ hx n hn).2) fun _ _ => T.bind (R := fun _ => True) (T.pos (by omega) (T.some trivial)) fun _ _ => T.some trivial
theorem rindex_T (l : List S58) (hl : l.length < 1000) (s t : ByteArray) : T (fun k => qBR.f k l s t) (fun _ => True) := by
 unfold qBR.f
 refine T.loop (σ := Unit) (g := fun k _ i => qBR.l0 k l (l.length : Int) i s t) (n := l.length) (by omega) (I := fun _ _ => True) (fun _ _ => ?_) (fun i _ hi _ next => ?_) l.length 0 () rfl (Nat.zero_le _) trivial
 ·refine T.succ ?_
  simp only [qBR.l0]
  exact T.neg (by omega) (T.some trivial)
 ·refine T.succ ?_
  simp only [qBR.l0]
  exact T.pos (by omega) (T.pos (by omega) (T.pos (by omega) (T.ite (fun _ => T.some trivial) fun _ => next () trivial)))
theorem over_S (b : List S48) (hb : Sx b) (hA : Arts b) (an : ByteArray) (x : S54) (hx : Art x) : S (overF b an x) (fun _ => True) := by
 obtain ⟨_, _, h8⟩ := hx
 unfold overF
 refine T.lim (fun k => qBA.mono _ _ _ _ _ _ _ _ _ _) ?_
 unfold qBA.f
 refine T.loop (σ := Unit) (g := fun k _ i => qBA.l0 k b x.f4 (x.f4.length : Int) i an x.f0 x.f0 x.f1 x.f2 x.f3 x.f4 x.f5) (n := x.f4.length) (by omega) (I := fun _ _ => True) (fun _ _ => ?_) (fun i _ hi _ next => ?_) x.f4.length 0 () rfl (Nat.zero_le _) trivial
 ·refine T.succ ?_
  simp only [qBA.l0]
  exact T.neg (by omega) (T.some trivial)
 ·have hj : ∀ d y0 y1, T (fun k => qBA.j1 k b (i : Int) x.f4 (x.f4.length : Int) (i : Int) d an x.f0 x.f0 x.f1 x.f2 x.f3 x.f4 x.f5 y0 y1) (fun _ => True) := fun d y0 y1 => by
   refine T.succ ?_
   simp only [qBA.j1]
   refine T.ite (fun _ => T.some trivial) fun _ => T.pos (by omega) (T.pos (by omega) ?_)
   unfold qCS.f
   exact T.bind (R := fun _ => True) (T.bind (rindex_T _ (by simp; omega) _ _) fun _ _ => T.some trivial) fun _ _ => T.ite (fun _ => T.some trivial) fun _ => next () trivial
  refine T.succ ?_
  simp only [qBA.l0]
  exact T.pos (by omega) (T.pos (by omega) (T.pos (by omega) (T.bind (Article_T b hb hA _ _) fun _ _ => T.ite (fun _ => T.ite (fun _ => hj _ _ _) fun _ => hj _ _ _) fun _ => T.some trivial)))
end Go.Proofs.Ytnliaialemfcaaa.Pure
end
