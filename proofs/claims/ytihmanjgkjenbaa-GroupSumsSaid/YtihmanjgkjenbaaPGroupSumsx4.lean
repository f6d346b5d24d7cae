-- Written by this session's own program, out of the translation and of contracts of its own. Not trusted: Lean checks it.
import Derived.Test.YtihmanjgkjenbaaPGroupSumsx0
import Derived.Test.YtihmanjgkjenbaaPGroupSumsx2
import Derived.Test.YtihmanjgkjenbaaPGroupSumsx3
namespace Go.Proofs.Ytihmanjgkjenbaa.PGroupSums
open Go.RowKit Go.Proofs.YtihmanjgkjenbaaW.PrintWords Go.Proofs.YtihmanjgkjenbaaW.PrintLast Go.Proofs.YtihmanjgkjenbaaW.PrintMore
attribute [local go_sem] max2_int min2_int max_two min_two max_three min_three max_four min_four   -- for this text's walks alone
set_option linter.unusedVariables false
set_option linter.unusedSimpArgs false

/-! ### mootlaw5_GroupSums: function 8 -/
mutual
def mootlaw5_GroupSums.j0 : Nat → List Int → List Int → Int → List (S50) → Int → Int → Int → Int → Bool → Option (Bool)
  | 0, _, _, _, _, _, _, _, _, _ => none
  | k + 1, x0, x1, x5, x6, x7, x8, x9, x10, x43 => if x43 = true then (some false) else (if x5 = 0 then (mootlaw5_GroupSums.j1 k x0 x1 x5 x6 x7 x8 x9 x10 x5 ((x0.length : Int) != (x1.length : Int))) else (mootlaw5_GroupSums.j1 k x0 x1 x5 x6 x7 x8 x9 x10 x5 false))
def mootlaw5_GroupSums.j1 : Nat → List Int → List Int → Int → List (S50) → Int → Int → Int → Int → Int → Bool → Option (Bool)
  | 0, _, _, _, _, _, _, _, _, _, _ => none
  | k + 1, x0, x1, x5, x6, x7, x8, x9, x10, x11, x53 => if x53 = true then (mootlaw5_GroupSums.j2 k x0 x1 3 x6 x7 x8 x9 x10 x11) else (mootlaw5_GroupSums.j2 k x0 x1 x5 x6 x7 x8 x9 x10 x11)
def mootlaw5_GroupSums.j2 : Nat → List Int → List Int → Int → List (S50) → Int → Int → Int → Int → Int → Option (Bool)
  | 0, _, _, _, _, _, _, _, _, _ => none
  | k + 1, x0, x1, x5, x6, x7, x8, x9, x10, x11 => if x5 = 0 then ((sortedSeq.f x0).bind fun t128 => ((compactInts.f t128).bind fun t131 => (mootlaw5_GroupSums.l0 k x0 x1 x5 x6 x7 x8 x9 x10 x11 ([] : List (S50)) t131 (t131.length : Int) 0))) else (mootlaw5_GroupSums.j5 k x1 x5 x6 x7 x8 x9 x10 x11 ([] : List (S50)))
def mootlaw5_GroupSums.j5 : Nat → List Int → Int → List (S50) → Int → Int → Int → Int → Int → List (S50) → Option (Bool)
  | 0, _, _, _, _, _, _, _, _, _ => none
  | k + 1, x1, x5, x6, x7, x8, x9, x10, x11, x12 => if x11 = 0 then (mootlaw5_GroupSums.j6 k x1 x5 x6 x7 x8 x9 x10 x11 x12 ((x1.length : Int) == 0)) else (mootlaw5_GroupSums.j6 k x1 x5 x6 x7 x8 x9 x10 x11 x12 false)
def mootlaw5_GroupSums.j6 : Nat → List Int → Int → List (S50) → Int → Int → Int → Int → Int → List (S50) → Bool → Option (Bool)
  | 0, _, _, _, _, _, _, _, _, _, _ => none
  | k + 1, x1, x5, x6, x7, x8, x9, x10, x11, x12, x101 => if x101 = true then (mootlaw5_GroupSums.j7 k x1 x5 x6 x7 x8 x9 x10 11 x12) else (mootlaw5_GroupSums.j7 k x1 x5 x6 x7 x8 x9 x10 x11 x12)
def mootlaw5_GroupSums.j7 : Nat → List Int → Int → List (S50) → Int → Int → Int → Int → Int → List (S50) → Option (Bool)
  | 0, _, _, _, _, _, _, _, _, _ => none
  | k + 1, x1, x5, x6, x7, x8, x9, x10, x11, x12 => if x11 = 0 then (mootlaw5_GroupSums.l2 k x1 x5 x6 x7 x8 x9 x10 x11 x12 0 x1 (x1.length : Int) 0) else (if x7 = x5 then ((group_Group.f k x6 x12).bind fun t145 => (if t145 = true then (if x10 = x11 then (if x8 = 0 then (some (x9 == 0)) else (some false)) else (some false)) else (some false))) else (some false))
def mootlaw5_GroupSums.l2 : Nat → List Int → Int → List (S50) → Int → Int → Int → Int → Int → List (S50) → Int → List Int → Int → Int → Option (Bool)
  | 0, _, _, _, _, _, _, _, _, _, _, _, _, _ => none
  | k + 1, x1, x5, x6, x7, x8, x9, x10, x11, x12, x18, x104, x105, x106 => if x106 < x105 then (if 0 ≤ x106 then (if x106 < (x104.length : Int) then (mootlaw5_GroupSums.l2 k x1 x5 x6 x7 x8 x9 x10 x11 x12 (wrap64 (x18 + (rd x104 x106))) x104 x105 (wrap64 (x106 + 1))) else (none)) else (none)) else ((mootref5_Lowest.f k x18 (x1.length : Int)).bind fun bt142 => (if x7 = x5 then ((group_Group.f k x6 x12).bind fun t144 => (if t144 = true then (if x10 = x11 then (if x8 = bt142.1 then (some (x9 == bt142.2)) else (some false)) else (some false)) else (some false))) else (some false)))
def mootlaw5_GroupSums.l0 : Nat → List Int → List Int → Int → List (S50) → Int → Int → Int → Int → Int → List (S50) → List Int → Int → Int → Option (Bool)
  | 0, _, _, _, _, _, _, _, _, _, _, _, _, _ => none
  | k + 1, x0, x1, x5, x6, x7, x8, x9, x10, x11, x12, x59, x60, x61 => if x61 < x60 then (if 0 ≤ x61 then (if x61 < (x59.length : Int) then (mootlaw5_GroupSums.l1 k x0 x1 x5 x6 x7 x8 x9 x10 x11 x12 (rd x59 x61) x59 x60 x61 x0 (x0.length : Int) 0 (rd x59 x61) 0 0) else (none)) else (none)) else (mootlaw5_GroupSums.j5 k x1 x5 x6 x7 x8 x9 x10 x11 x12)
def mootlaw5_GroupSums.l1 : Nat → List Int → List Int → Int → List (S50) → Int → Int → Int → Int → Int → List (S50) → Int → List Int → Int → Int → List Int → Int → Int → Int → Int → Int → Option (Bool)
  | 0, _, _, _, _, _, _, _, _, _, _, _, _, _, _, _, _, _, _, _, _ => none
  | k + 1, x0, x1, x5, x6, x7, x8, x9, x10, x11, x12, x14, x59, x60, x61, x67, x68, x69, x136000, x136001, x136002 => if x69 < x68 then (if 0 ≤ x69 then (if x69 < (x67.length : Int) then (if (rd x67 x69) = x14 then (if x69 < (x1.length : Int) then (mootlaw5_GroupSums.l1 k x0 x1 x5 x6 x7 x8 x9 x10 x11 x12 x14 x59 x60 x61 x67 x68 (wrap64 (x69 + 1)) x136000 (wrap64 (x136001 + 1)) (wrap64 (x136002 + (rd x1 x69)))) else (none)) else (mootlaw5_GroupSums.l1 k x0 x1 x5 x6 x7 x8 x9 x10 x11 x12 x14 x59 x60 x61 x67 x68 (wrap64 (x69 + 1)) x136000 x136001 x136002)) else (none)) else (none)) else (if x12.length < 5864062014805 then (mootlaw5_GroupSums.l0 k x0 x1 x5 x6 x7 x8 x9 x10 x11 (x12 ++ [(⟨x136000, x136001, x136002⟩ : S50)]) x59 x60 (wrap64 (x61 + 1))) else (none))
end
def mootlaw5_GroupSums.f (k : Nat) (l0 : List Int) (l1 : List Int) : Option (Bool) := (mootlaw5_listFault.f k l1).bind fun t118 => ((group_By.f l0 l1).bind fun bt119 => ((group_Mean.f k l1).bind fun bt123 => ((mootlaw5_shared.f k).bind fun t126 => (if t126 = true then ((group_Check.f k l1).bind fun t127 => (mootlaw5_GroupSums.j0 k l0 l1 t118 bt119.1 bt119.2 bt123.1 bt123.2.1 bt123.2.2 (t127 != t118))) else (mootlaw5_GroupSums.j0 k l0 l1 t118 bt119.1 bt119.2 bt123.1 bt123.2.1 bt123.2.2 true)))))
theorem mootlaw5_GroupSums.mono_l : ∀ k, (∀ y0 y1 y2 y3 y4 y5 y6 y7 y8, LeO (mootlaw5_GroupSums.j0 k y0 y1 y2 y3 y4 y5 y6 y7 y8) (mootlaw5_GroupSums.j0 (k + 1) y0 y1 y2 y3 y4 y5 y6 y7 y8)) ∧ (∀ y0 y1 y2 y3 y4 y5 y6 y7 y8 y9, LeO (mootlaw5_GroupSums.j1 k y0 y1 y2 y3 y4 y5 y6 y7 y8 y9) (mootlaw5_GroupSums.j1 (k + 1) y0 y1 y2 y3 y4 y5 y6 y7 y8 y9)) ∧ (∀ y0 y1 y2 y3 y4 y5 y6 y7 y8, LeO (mootlaw5_GroupSums.j2 k y0 y1 y2 y3 y4 y5 y6 y7 y8) (mootlaw5_GroupSums.j2 (k + 1) y0 y1 y2 y3 y4 y5 y6 y7 y8)) ∧ (∀ y0 y1 y2 y3 y4 y5 y6 y7 y8, LeO (mootlaw5_GroupSums.j5 k y0 y1 y2 y3 y4 y5 y6 y7 y8) (mootlaw5_GroupSums.j5 (k + 1) y0 y1 y2 y3 y4 y5 y6 y7 y8)) ∧ (∀ y0 y1 y2 y3 y4 y5 y6 y7 y8 y9, LeO (mootlaw5_GroupSums.j6 k y0 y1 y2 y3 y4 y5 y6 y7 y8 y9) (mootlaw5_GroupSums.j6 (k + 1) y0 y1 y2 y3 y4 y5 y6 y7 y8 y9)) ∧ (∀ y0 y1 y2 y3 y4 y5 y6 y7 y8, LeO (mootlaw5_GroupSums.j7 k y0 y1 y2 y3 y4 y5 y6 y7 y8) (mootlaw5_GroupSums.j7 (k + 1) y0 y1 y2 y3 y4 y5 y6 y7 y8)) ∧ (∀ y0 y1 y2 y3 y4 y5 y6 y7 y8 y9 y10 y11 y12, LeO (mootlaw5_GroupSums.l2 k y0 y1 y2 y3 y4 y5 y6 y7 y8 y9 y10 y11 y12) (mootlaw5_GroupSums.l2 (k + 1) y0 y1 y2 y3 y4 y5 y6 y7 y8 y9 y10 y11 y12)) ∧ (∀ y0 y1 y2 y3 y4 y5 y6 y7 y8 y9 y10 y11 y12, LeO (mootlaw5_GroupSums.l0 k y0 y1 y2 y3 y4 y5 y6 y7 y8 y9 y10 y11 y12) (mootlaw5_GroupSums.l0 (k + 1) y0 y1 y2 y3 y4 y5 y6 y7 y8 y9 y10 y11 y12)) ∧ (∀ y0 y1 y2 y3 y4 y5 y6 y7 y8 y9 y10 y11 y12 y13 y14 y15 y16 y17 y18 y19, LeO (mootlaw5_GroupSums.l1 k y0 y1 y2 y3 y4 y5 y6 y7 y8 y9 y10 y11 y12 y13 y14 y15 y16 y17 y18 y19) (mootlaw5_GroupSums.l1 (k + 1) y0 y1 y2 y3 y4 y5 y6 y7 y8 y9 y10 y11 y12 y13 y14 y15 y16 y17 y18 y19))
  | 0 => ⟨fun _ _ _ _ _ _ _ _ _ r h => by simp [mootlaw5_GroupSums.j0] at h, fun _ _ _ _ _ _ _ _ _ _ r h => by simp [mootlaw5_GroupSums.j1] at h, fun _ _ _ _ _ _ _ _ _ r h => by simp [mootlaw5_GroupSums.j2] at h, fun _ _ _ _ _ _ _ _ _ r h => by simp [mootlaw5_GroupSums.j5] at h, fun _ _ _ _ _ _ _ _ _ _ r h => by simp [mootlaw5_GroupSums.j6] at h, fun _ _ _ _ _ _ _ _ _ r h => by simp [mootlaw5_GroupSums.j7] at h, fun _ _ _ _ _ _ _ _ _ _ _ _ _ r h => by simp [mootlaw5_GroupSums.l2] at h, fun _ _ _ _ _ _ _ _ _ _ _ _ _ r h => by simp [mootlaw5_GroupSums.l0] at h, fun _ _ _ _ _ _ _ _ _ _ _ _ _ _ _ _ _ _ _ _ r h => by simp [mootlaw5_GroupSums.l1] at h⟩
  | k + 1 => by
    obtain ⟨ih0, ih1, ih2, ih3, ih4, ih5, ih6, ih7, ih8⟩ := mootlaw5_GroupSums.mono_l k
    refine ⟨?_, ?_, ?_, ?_, ?_, ?_, ?_, ?_, ?_⟩
    · intro y0 y1 y2 y3 y4 y5 y6 y7 y8
      unfold mootlaw5_GroupSums.j0
      repeat' first
      | (with_reducible exact ih0 _ _ _ _ _ _ _ _ _)
      | (with_reducible exact ih1 _ _ _ _ _ _ _ _ _ _)
      | (with_reducible exact ih2 _ _ _ _ _ _ _ _ _)
      | (with_reducible exact ih3 _ _ _ _ _ _ _ _ _)
      | (with_reducible exact ih4 _ _ _ _ _ _ _ _ _ _)
      | (with_reducible exact ih5 _ _ _ _ _ _ _ _ _)
      | (with_reducible exact ih6 _ _ _ _ _ _ _ _ _ _ _ _ _)
      | (with_reducible exact ih7 _ _ _ _ _ _ _ _ _ _ _ _ _)
      | (with_reducible exact ih8 _ _ _ _ _ _ _ _ _ _ _ _ _ _ _ _ _ _ _ _)
      | (with_reducible exact group_Check.mono _ _)
      | (with_reducible exact group_Group.mono _ _ _)
      | (with_reducible exact group_Mean.mono _ _)
      | (with_reducible exact mootlaw5_listFault.mono _ _)
      | (with_reducible exact mootlaw5_shared.mono _)
      | (with_reducible exact mootref5_Lowest.mono _ _ _)
      | (with_reducible exact LeO.refl _)
      | (with_reducible exact LeO.none _)
      | (with_reducible refine LeO.ite ?_ ?_)
      | (with_reducible refine LeO.bind ?_ (fun _ => ?_))
      | exact ih0 _ _ _ _ _ _ _ _ _
      | exact ih1 _ _ _ _ _ _ _ _ _ _
      | exact ih2 _ _ _ _ _ _ _ _ _
      | exact ih3 _ _ _ _ _ _ _ _ _
      | exact ih4 _ _ _ _ _ _ _ _ _ _
      | exact ih5 _ _ _ _ _ _ _ _ _
      | exact ih6 _ _ _ _ _ _ _ _ _ _ _ _ _
      | exact ih7 _ _ _ _ _ _ _ _ _ _ _ _ _
      | exact ih8 _ _ _ _ _ _ _ _ _ _ _ _ _ _ _ _ _ _ _ _
      | exact group_Check.mono _ _
      | exact group_Group.mono _ _ _
      | exact group_Mean.mono _ _
      | exact mootlaw5_listFault.mono _ _
      | exact mootlaw5_shared.mono _
      | exact mootref5_Lowest.mono _ _ _
      | exact LeO.none _
      | refine LeO.ite ?_ ?_
      | refine LeO.bind ?_ (fun _ => ?_)
    · intro y0 y1 y2 y3 y4 y5 y6 y7 y8 y9
      unfold mootlaw5_GroupSums.j1
      repeat' first
      | (with_reducible exact ih0 _ _ _ _ _ _ _ _ _)
      | (with_reducible exact ih1 _ _ _ _ _ _ _ _ _ _)
      | (with_reducible exact ih2 _ _ _ _ _ _ _ _ _)
      | (with_reducible exact ih3 _ _ _ _ _ _ _ _ _)
      | (with_reducible exact ih4 _ _ _ _ _ _ _ _ _ _)
      | (with_reducible exact ih5 _ _ _ _ _ _ _ _ _)
      | (with_reducible exact ih6 _ _ _ _ _ _ _ _ _ _ _ _ _)
      | (with_reducible exact ih7 _ _ _ _ _ _ _ _ _ _ _ _ _)
      | (with_reducible exact ih8 _ _ _ _ _ _ _ _ _ _ _ _ _ _ _ _ _ _ _ _)
      | (with_reducible exact group_Check.mono _ _)
      | (with_reducible exact group_Group.mono _ _ _)
      | (with_reducible exact group_Mean.mono _ _)
      | (with_reducible exact mootlaw5_listFault.mono _ _)
      | (with_reducible exact mootlaw5_shared.mono _)
      | (with_reducible exact mootref5_Lowest.mono _ _ _)
      | (with_reducible exact LeO.refl _)
      | (with_reducible exact LeO.none _)
      | (with_reducible refine LeO.ite ?_ ?_)
      | (with_reducible refine LeO.bind ?_ (fun _ => ?_))
      | exact ih0 _ _ _ _ _ _ _ _ _
      | exact ih1 _ _ _ _ _ _ _ _ _ _
      | exact ih2 _ _ _ _ _ _ _ _ _
      | exact ih3 _ _ _ _ _ _ _ _ _
      | exact ih4 _ _ _ _ _ _ _ _ _ _
      | exact ih5 _ _ _ _ _ _ _ _ _
      | exact ih6 _ _ _ _ _ _ _ _ _ _ _ _ _
      | exact ih7 _ _ _ _ _ _ _ _ _ _ _ _ _
      | exact ih8 _ _ _ _ _ _ _ _ _ _ _ _ _ _ _ _ _ _ _ _
      | exact group_Check.mono _ _
      | exact group_Group.mono _ _ _
      | exact group_Mean.mono _ _
      | exact mootlaw5_listFault.mono _ _
      | exact mootlaw5_shared.mono _
      | exact mootref5_Lowest.mono _ _ _
      | exact LeO.none _
      | refine LeO.ite ?_ ?_
      | refine LeO.bind ?_ (fun _ => ?_)
    · intro y0 y1 y2 y3 y4 y5 y6 y7 y8
      unfold mootlaw5_GroupSums.j2
      repeat' first
      | (with_reducible exact ih0 _ _ _ _ _ _ _ _ _)
      | (with_reducible exact ih1 _ _ _ _ _ _ _ _ _ _)
      | (with_reducible exact ih2 _ _ _ _ _ _ _ _ _)
      | (with_reducible exact ih3 _ _ _ _ _ _ _ _ _)
      | (with_reducible exact ih4 _ _ _ _ _ _ _ _ _ _)
      | (with_reducible exact ih5 _ _ _ _ _ _ _ _ _)
      | (with_reducible exact ih6 _ _ _ _ _ _ _ _ _ _ _ _ _)
      | (with_reducible exact ih7 _ _ _ _ _ _ _ _ _ _ _ _ _)
      | (with_reducible exact ih8 _ _ _ _ _ _ _ _ _ _ _ _ _ _ _ _ _ _ _ _)
      | (with_reducible exact group_Check.mono _ _)
      | (with_reducible exact group_Group.mono _ _ _)
      | (with_reducible exact group_Mean.mono _ _)
      | (with_reducible exact mootlaw5_listFault.mono _ _)
      | (with_reducible exact mootlaw5_shared.mono _)
      | (with_reducible exact mootref5_Lowest.mono _ _ _)
      | (with_reducible exact LeO.refl _)
      | (with_reducible exact LeO.none _)
      | (with_reducible refine LeO.ite ?_ ?_)
      | (with_reducible refine LeO.bind ?_ (fun _ => ?_))
      | exact ih0 _ _ _ _ _ _ _ _ _
      | exact ih1 _ _ _ _ _ _ _ _ _ _
      | exact ih2 _ _ _ _ _ _ _ _ _
      | exact ih3 _ _ _ _ _ _ _ _ _
      | exact ih4 _ _ _ _ _ _ _ _ _ _
      | exact ih5 _ _ _ _ _ _ _ _ _
      | exact ih6 _ _ _ _ _ _ _ _ _ _ _ _ _
      | exact ih7 _ _ _ _ _ _ _ _ _ _ _ _ _
      | exact ih8 _ _ _ _ _ _ _ _ _ _ _ _ _ _ _ _ _ _ _ _
      | exact group_Check.mono _ _
      | exact group_Group.mono _ _ _
      | exact group_Mean.mono _ _
      | exact mootlaw5_listFault.mono _ _
      | exact mootlaw5_shared.mono _
      | exact mootref5_Lowest.mono _ _ _
      | exact LeO.none _
      | refine LeO.ite ?_ ?_
      | refine LeO.bind ?_ (fun _ => ?_)
    · intro y0 y1 y2 y3 y4 y5 y6 y7 y8
      unfold mootlaw5_GroupSums.j5
      repeat' first
      | (with_reducible exact ih0 _ _ _ _ _ _ _ _ _)
      | (with_reducible exact ih1 _ _ _ _ _ _ _ _ _ _)
      | (with_reducible exact ih2 _ _ _ _ _ _ _ _ _)
      | (with_reducible exact ih3 _ _ _ _ _ _ _ _ _)
      | (with_reducible exact ih4 _ _ _ _ _ _ _ _ _ _)
      | (with_reducible exact ih5 _ _ _ _ _ _ _ _ _)
      | (with_reducible exact ih6 _ _ _ _ _ _ _ _ _ _ _ _ _)
      | (with_reducible exact ih7 _ _ _ _ _ _ _ _ _ _ _ _ _)
      | (with_reducible exact ih8 _ _ _ _ _ _ _ _ _ _ _ _ _ _ _ _ _ _ _ _)
      | (with_reducible exact group_Check.mono _ _)
      | (with_reducible exact group_Group.mono _ _ _)
      | (with_reducible exact group_Mean.mono _ _)
      | (with_reducible exact mootlaw5_listFault.mono _ _)
      | (with_reducible exact mootlaw5_shared.mono _)
      | (with_reducible exact mootref5_Lowest.mono _ _ _)
      | (with_reducible exact LeO.refl _)
      | (with_reducible exact LeO.none _)
      | (with_reducible refine LeO.ite ?_ ?_)
      | (with_reducible refine LeO.bind ?_ (fun _ => ?_))
      | exact ih0 _ _ _ _ _ _ _ _ _
      | exact ih1 _ _ _ _ _ _ _ _ _ _
      | exact ih2 _ _ _ _ _ _ _ _ _
      | exact ih3 _ _ _ _ _ _ _ _ _
      | exact ih4 _ _ _ _ _ _ _ _ _ _
      | exact ih5 _ _ _ _ _ _ _ _ _
      | exact ih6 _ _ _ _ _ _ _ _ _ _ _ _ _
      | exact ih7 _ _ _ _ _ _ _ _ _ _ _ _ _
      | exact ih8 _ _ _ _ _ _ _ _ _ _ _ _ _ _ _ _ _ _ _ _
      | exact group_Check.mono _ _
      | exact group_Group.mono _ _ _
      | exact group_Mean.mono _ _
      | exact mootlaw5_listFault.mono _ _
      | exact mootlaw5_shared.mono _
      | exact mootref5_Lowest.mono _ _ _
      | exact LeO.none _
      | refine LeO.ite ?_ ?_
      | refine LeO.bind ?_ (fun _ => ?_)
    · intro y0 y1 y2 y3 y4 y5 y6 y7 y8 y9
      unfold mootlaw5_GroupSums.j6
      repeat' first
      | (with_reducible exact ih0 _ _ _ _ _ _ _ _ _)
      | (with_reducible exact ih1 _ _ _ _ _ _ _ _ _ _)
      | (with_reducible exact ih2 _ _ _ _ _ _ _ _ _)
      | (with_reducible exact ih3 _ _ _ _ _ _ _ _ _)
      | (with_reducible exact ih4 _ _ _ _ _ _ _ _ _ _)
      | (with_reducible exact ih5 _ _ _ _ _ _ _ _ _)
      | (with_reducible exact ih6 _ _ _ _ _ _ _ _ _ _ _ _ _)
      | (with_reducible exact ih7 _ _ _ _ _ _ _ _ _ _ _ _ _)
      | (with_reducible exact ih8 _ _ _ _ _ _ _ _ _ _ _ _ _ _ _ _ _ _ _ _)
      | (with_reducible exact group_Check.mono _ _)
      | (with_reducible exact group_Group.mono _ _ _)
      | (with_reducible exact group_Mean.mono _ _)
      | (with_reducible exact mootlaw5_listFault.mono _ _)
      | (with_reducible exact mootlaw5_shared.mono _)
      | (with_reducible exact mootref5_Lowest.mono _ _ _)
      | (with_reducible exact LeO.refl _)
      | (with_reducible exact LeO.none _)
      | (with_reducible refine LeO.ite ?_ ?_)
      | (with_reducible refine LeO.bind ?_ (fun _ => ?_))
      | exact ih0 _ _ _ _ _ _ _ _ _
      | exact ih1 _ _ _ _ _ _ _ _ _ _
      | exact ih2 _ _ _ _ _ _ _ _ _
      | exact ih3 _ _ _ _ _ _ _ _ _
      | exact ih4 _ _ _ _ _ _ _ _ _ _
      | exact ih5 _ _ _ _ _ _ _ _ _
      | exact ih6 _ _ _ _ _ _ _ _ _ _ _ _ _
      | exact ih7 _ _ _ _ _ _ _ _ _ _ _ _ _
      | exact ih8 _ _ _ _ _ _ _ _ _ _ _ _ _ _ _ _ _ _ _ _
      | exact group_Check.mono _ _
      | exact group_Group.mono _ _ _
      | exact group_Mean.mono _ _
      | exact mootlaw5_listFault.mono _ _
      | exact mootlaw5_shared.mono _
      | exact mootref5_Lowest.mono _ _ _
      | exact LeO.none _
      | refine LeO.ite ?_ ?_
      | refine LeO.bind ?_ (fun _ => ?_)
    · intro y0 y1 y2 y3 y4 y5 y6 y7 y8
      unfold mootlaw5_GroupSums.j7
      repeat' first
      | (with_reducible exact ih0 _ _ _ _ _ _ _ _ _)
      | (with_reducible exact ih1 _ _ _ _ _ _ _ _ _ _)
      | (with_reducible exact ih2 _ _ _ _ _ _ _ _ _)
      | (with_reducible exact ih3 _ _ _ _ _ _ _ _ _)
      | (with_reducible exact ih4 _ _ _ _ _ _ _ _ _ _)
      | (with_reducible exact ih5 _ _ _ _ _ _ _ _ _)
      | (with_reducible exact ih6 _ _ _ _ _ _ _ _ _ _ _ _ _)
      | (with_reducible exact ih7 _ _ _ _ _ _ _ _ _ _ _ _ _)
      | (with_reducible exact ih8 _ _ _ _ _ _ _ _ _ _ _ _ _ _ _ _ _ _ _ _)
      | (with_reducible exact group_Check.mono _ _)
      | (with_reducible exact group_Group.mono _ _ _)
      | (with_reducible exact group_Mean.mono _ _)
      | (with_reducible exact mootlaw5_listFault.mono _ _)
      | (with_reducible exact mootlaw5_shared.mono _)
      | (with_reducible exact mootref5_Lowest.mono _ _ _)
      | (with_reducible exact LeO.refl _)
      | (with_reducible exact LeO.none _)
      | (with_reducible refine LeO.ite ?_ ?_)
      | (with_reducible refine LeO.bind ?_ (fun _ => ?_))
      | exact ih0 _ _ _ _ _ _ _ _ _
      | exact ih1 _ _ _ _ _ _ _ _ _ _
      | exact ih2 _ _ _ _ _ _ _ _ _
      | exact ih3 _ _ _ _ _ _ _ _ _
      | exact ih4 _ _ _ _ _ _ _ _ _ _
      | exact ih5 _ _ _ _ _ _ _ _ _
      | exact ih6 _ _ _ _ _ _ _ _ _ _ _ _ _
      | exact ih7 _ _ _ _ _ _ _ _ _ _ _ _ _
      | exact ih8 _ _ _ _ _ _ _ _ _ _ _ _ _ _ _ _ _ _ _ _
      | exact group_Check.mono _ _
      | exact group_Group.mono _ _ _
      | exact group_Mean.mono _ _
      | exact mootlaw5_listFault.mono _ _
      | exact mootlaw5_shared.mono _
      | exact mootref5_Lowest.mono _ _ _
      | exact LeO.none _
      | refine LeO.ite ?_ ?_
      | refine LeO.bind ?_ (fun _ => ?_)
    · intro y0 y1 y2 y3 y4 y5 y6 y7 y8 y9 y10 y11 y12
      unfold mootlaw5_GroupSums.l2
      repeat' first
      | (with_reducible exact ih0 _ _ _ _ _ _ _ _ _)
      | (with_reducible exact ih1 _ _ _ _ _ _ _ _ _ _)
      | (with_reducible exact ih2 _ _ _ _ _ _ _ _ _)
      | (with_reducible exact ih3 _ _ _ _ _ _ _ _ _)
      | (with_reducible exact ih4 _ _ _ _ _ _ _ _ _ _)
      | (with_reducible exact ih5 _ _ _ _ _ _ _ _ _)
      | (with_reducible exact ih6 _ _ _ _ _ _ _ _ _ _ _ _ _)
      | (with_reducible exact ih7 _ _ _ _ _ _ _ _ _ _ _ _ _)
      | (with_reducible exact ih8 _ _ _ _ _ _ _ _ _ _ _ _ _ _ _ _ _ _ _ _)
      | (with_reducible exact group_Check.mono _ _)
      | (with_reducible exact group_Group.mono _ _ _)
      | (with_reducible exact group_Mean.mono _ _)
      | (with_reducible exact mootlaw5_listFault.mono _ _)
      | (with_reducible exact mootlaw5_shared.mono _)
      | (with_reducible exact mootref5_Lowest.mono _ _ _)
      | (with_reducible exact LeO.refl _)
      | (with_reducible exact LeO.none _)
      | (with_reducible refine LeO.ite ?_ ?_)
      | (with_reducible refine LeO.bind ?_ (fun _ => ?_))
      | exact ih0 _ _ _ _ _ _ _ _ _
      | exact ih1 _ _ _ _ _ _ _ _ _ _
      | exact ih2 _ _ _ _ _ _ _ _ _
      | exact ih3 _ _ _ _ _ _ _ _ _
      | exact ih4 _ _ _ _ _ _ _ _ _ _
      | exact ih5 _ _ _ _ _ _ _ _ _
      | exact ih6 _ _ _ _ _ _ _ _ _ _ _ _ _
      | exact ih7 _ _ _ _ _ _ _ _ _ _ _ _ _
      | exact ih8 _ _ _ _ _ _ _ _ _ _ _ _ _ _ _ _ _ _ _ _
      | exact group_Check.mono _ _
      | exact group_Group.mono _ _ _
      | exact group_Mean.mono _ _
      | exact mootlaw5_listFault.mono _ _
      | exact mootlaw5_shared.mono _
      | exact mootref5_Lowest.mono _ _ _
      | exact LeO.none _
      | refine LeO.ite ?_ ?_
      | refine LeO.bind ?_ (fun _ => ?_)
    · intro y0 y1 y2 y3 y4 y5 y6 y7 y8 y9 y10 y11 y12
      unfold mootlaw5_GroupSums.l0
      repeat' first
      | (with_reducible exact ih0 _ _ _ _ _ _ _ _ _)
      | (with_reducible exact ih1 _ _ _ _ _ _ _ _ _ _)
      | (with_reducible exact ih2 _ _ _ _ _ _ _ _ _)
      | (with_reducible exact ih3 _ _ _ _ _ _ _ _ _)
      | (with_reducible exact ih4 _ _ _ _ _ _ _ _ _ _)
      | (with_reducible exact ih5 _ _ _ _ _ _ _ _ _)
      | (with_reducible exact ih6 _ _ _ _ _ _ _ _ _ _ _ _ _)
      | (with_reducible exact ih7 _ _ _ _ _ _ _ _ _ _ _ _ _)
      | (with_reducible exact ih8 _ _ _ _ _ _ _ _ _ _ _ _ _ _ _ _ _ _ _ _)
      | (with_reducible exact group_Check.mono _ _)
      | (with_reducible exact group_Group.mono _ _ _)
      | (with_reducible exact group_Mean.mono _ _)
      | (with_reducible exact mootlaw5_listFault.mono _ _)
      | (with_reducible exact mootlaw5_shared.mono _)
      | (with_reducible exact mootref5_Lowest.mono _ _ _)
      | (with_reducible exact LeO.refl _)
      | (with_reducible exact LeO.none _)
      | (with_reducible refine LeO.ite ?_ ?_)
      | (with_reducible refine LeO.bind ?_ (fun _ => ?_))
      | exact ih0 _ _ _ _ _ _ _ _ _
      | exact ih1 _ _ _ _ _ _ _ _ _ _
      | exact ih2 _ _ _ _ _ _ _ _ _
      | exact ih3 _ _ _ _ _ _ _ _ _
      | exact ih4 _ _ _ _ _ _ _ _ _ _
      | exact ih5 _ _ _ _ _ _ _ _ _
      | exact ih6 _ _ _ _ _ _ _ _ _ _ _ _ _
      | exact ih7 _ _ _ _ _ _ _ _ _ _ _ _ _
      | exact ih8 _ _ _ _ _ _ _ _ _ _ _ _ _ _ _ _ _ _ _ _
      | exact group_Check.mono _ _
      | exact group_Group.mono _ _ _
      | exact group_Mean.mono _ _
      | exact mootlaw5_listFault.mono _ _
      | exact mootlaw5_shared.mono _
      | exact mootref5_Lowest.mono _ _ _
      | exact LeO.none _
      | refine LeO.ite ?_ ?_
      | refine LeO.bind ?_ (fun _ => ?_)
    · intro y0 y1 y2 y3 y4 y5 y6 y7 y8 y9 y10 y11 y12 y13 y14 y15 y16 y17 y18 y19
      unfold mootlaw5_GroupSums.l1
      repeat' first
      | (with_reducible exact ih0 _ _ _ _ _ _ _ _ _)
      | (with_reducible exact ih1 _ _ _ _ _ _ _ _ _ _)
      | (with_reducible exact ih2 _ _ _ _ _ _ _ _ _)
      | (with_reducible exact ih3 _ _ _ _ _ _ _ _ _)
      | (with_reducible exact ih4 _ _ _ _ _ _ _ _ _ _)
      | (with_reducible exact ih5 _ _ _ _ _ _ _ _ _)
      | (with_reducible exact ih6 _ _ _ _ _ _ _ _ _ _ _ _ _)
      | (with_reducible exact ih7 _ _ _ _ _ _ _ _ _ _ _ _ _)
      | (with_reducible exact ih8 _ _ _ _ _ _ _ _ _ _ _ _ _ _ _ _ _ _ _ _)
      | (with_reducible exact group_Check.mono _ _)
      | (with_reducible exact group_Group.mono _ _ _)
      | (with_reducible exact group_Mean.mono _ _)
      | (with_reducible exact mootlaw5_listFault.mono _ _)
      | (with_reducible exact mootlaw5_shared.mono _)
      | (with_reducible exact mootref5_Lowest.mono _ _ _)
      | (with_reducible exact LeO.refl _)
      | (with_reducible exact LeO.none _)
      | (with_reducible refine LeO.ite ?_ ?_)
      | (with_reducible refine LeO.bind ?_ (fun _ => ?_))
      | exact ih0 _ _ _ _ _ _ _ _ _
      | exact ih1 _ _ _ _ _ _ _ _ _ _
      | exact ih2 _ _ _ _ _ _ _ _ _
      | exact ih3 _ _ _ _ _ _ _ _ _
      | exact ih4 _ _ _ _ _ _ _ _ _ _
      | exact ih5 _ _ _ _ _ _ _ _ _
      | exact ih6 _ _ _ _ _ _ _ _ _ _ _ _ _
      | exact ih7 _ _ _ _ _ _ _ _ _ _ _ _ _
      | exact ih8 _ _ _ _ _ _ _ _ _ _ _ _ _ _ _ _ _ _ _ _
      | exact group_Check.mono _ _
      | exact group_Group.mono _ _ _
      | exact group_Mean.mono _ _
      | exact mootlaw5_listFault.mono _ _
      | exact mootlaw5_shared.mono _
      | exact mootref5_Lowest.mono _ _ _
      | exact LeO.none _
      | refine LeO.ite ?_ ?_
      | refine LeO.bind ?_ (fun _ => ?_)
theorem mootlaw5_GroupSums.mono : ∀ a0 a1 k, LeO (mootlaw5_GroupSums.f k a0 a1) (mootlaw5_GroupSums.f (k + 1) a0 a1) := by
  intro a0 a1 k
  obtain ⟨ih0, ih1, ih2, ih3, ih4, ih5, ih6, ih7, ih8⟩ := mootlaw5_GroupSums.mono_l k
  unfold mootlaw5_GroupSums.f
  repeat' first
      | (with_reducible exact ih0 _ _ _ _ _ _ _ _ _)
      | (with_reducible exact ih1 _ _ _ _ _ _ _ _ _ _)
      | (with_reducible exact ih2 _ _ _ _ _ _ _ _ _)
      | (with_reducible exact ih3 _ _ _ _ _ _ _ _ _)
      | (with_reducible exact ih4 _ _ _ _ _ _ _ _ _ _)
      | (with_reducible exact ih5 _ _ _ _ _ _ _ _ _)
      | (with_reducible exact ih6 _ _ _ _ _ _ _ _ _ _ _ _ _)
      | (with_reducible exact ih7 _ _ _ _ _ _ _ _ _ _ _ _ _)
      | (with_reducible exact ih8 _ _ _ _ _ _ _ _ _ _ _ _ _ _ _ _ _ _ _ _)
      | (with_reducible exact group_Check.mono _ _)
      | (with_reducible exact group_Group.mono _ _ _)
      | (with_reducible exact group_Mean.mono _ _)
      | (with_reducible exact mootlaw5_listFault.mono _ _)
      | (with_reducible exact mootlaw5_shared.mono _)
      | (with_reducible exact mootref5_Lowest.mono _ _ _)
      | (with_reducible exact LeO.refl _)
      | (with_reducible exact LeO.none _)
      | (with_reducible refine LeO.ite ?_ ?_)
      | (with_reducible refine LeO.bind ?_ (fun _ => ?_))
      | exact ih0 _ _ _ _ _ _ _ _ _
      | exact ih1 _ _ _ _ _ _ _ _ _ _
      | exact ih2 _ _ _ _ _ _ _ _ _
      | exact ih3 _ _ _ _ _ _ _ _ _
      | exact ih4 _ _ _ _ _ _ _ _ _ _
      | exact ih5 _ _ _ _ _ _ _ _ _
      | exact ih6 _ _ _ _ _ _ _ _ _ _ _ _ _
      | exact ih7 _ _ _ _ _ _ _ _ _ _ _ _ _
      | exact ih8 _ _ _ _ _ _ _ _ _ _ _ _ _ _ _ _ _ _ _ _
      | exact group_Check.mono _ _
      | exact group_Group.mono _ _ _
      | exact group_Mean.mono _ _
      | exact mootlaw5_listFault.mono _ _
      | exact mootlaw5_shared.mono _
      | exact mootref5_Lowest.mono _ _ _
      | exact LeO.none _
      | refine LeO.ite ?_ ?_
      | refine LeO.bind ?_ (fun _ => ?_)
def mootlaw5_GroupSums.T20 : Bool × List (List Nat × List Nat) := (true, [([], []), ([0], [0]), ([], []), ([], []), ([2, 3], [2, 3]), ([4], [4]), ([1, 5], [1, 5]), ([0, 1, 2, 3, 4, 5, 6], []), ([7, 6, 0, 1, 2, 3, 4, 5, 6], [6, 7])])
def mootlaw5_GroupSums.B20 : List Nat := [0, 1, 0, 0, 12, 28, 63, 127, 255]
theorem mootlaw5_GroupSums.tab20 : rtab .any (opsOf Try.f8 20) = mootlaw5_GroupSums.T20 := by kernel_rfl
theorem mootlaw5_GroupSums.bits20 : waitsOk mootlaw5_GroupSums.T20.2 mootlaw5_GroupSums.B20 = true := by kernel_rfl
set_option maxHeartbeats 8000000 in
set_option maxRecDepth 100000 in
theorem mootlaw5_GroupSums.calls (k : Nat) (A0 : Option Addr) (c0 : Nat) (l0 : List Int) (A1 : Option Addr) (c1 : Nat) (l1 : List Int) (r : Bool) (w : World) (hr0 : Kd.C (Kd.int .i64) w A0 l0.length l0) (hc0 : l0.length ≤ c0) (hr1 : Kd.C (Kd.int .i64) w A1 l1.length l1) (hc1 : l1.length ≤ c1) (h : mootlaw5_GroupSums.f k l0 l1 = some r) :
    Calls Try.prog 8 #[.slice A0 l0.length c0, .slice A1 l1.length c1] w fun e w' => e = .returned (.bool r) ∧ Below w.heap.size w w' := by
  have hu50 := Try.underlying50
  have HR0 := Aside0.mk hr0
  have HC0 := Aside0.mk hc0
  clear hr0 hc0
  have HR1 := Aside0.mk hr1
  have HC1 := Aside0.mk hc1
  clear hr1 hc1
  have HB := Aside0.mk (Below.refl w.heap.size w)
  have H : ((mootlaw5_listFault.f k l1).bind fun t118 => ((group_By.f l0 l1).bind fun bt119 => ((group_Mean.f k l1).bind fun bt123 => ((mootlaw5_shared.f k).bind fun t126 => (if t126 = true then ((group_Check.f k l1).bind fun t127 => (mootlaw5_GroupSums.j0 k l0 l1 t118 bt119.1 bt119.2 bt123.1 bt123.2.1 bt123.2.2 (t127 != t118))) else (mootlaw5_GroupSums.j0 k l0 l1 t118 bt119.1 bt119.2 bt123.1 bt123.2.1 bt123.2.2 true)))))) = some r := h
  clear h
  replace H := Option.bind_eq_some_iff.mp H
  obtain ⟨t118, A30, H⟩ := H
  replace H : ((group_By.f l0 l1).bind fun bt119 => ((group_Mean.f k l1).bind fun bt123 => ((mootlaw5_shared.f k).bind fun t126 => (if t126 = true then ((group_Check.f k l1).bind fun t127 => (mootlaw5_GroupSums.j0 k l0 l1 t118 bt119.1 bt119.2 bt123.1 bt123.2.1 bt123.2.2 (t127 != t118))) else (mootlaw5_GroupSums.j0 k l0 l1 t118 bt119.1 bt119.2 bt123.1 bt123.2.1 bt123.2.2 true))))) = some r := H
  have A3 := Aside0.mk A30
  clear A30
  replace H := Option.bind_eq_some_iff.mp H
  obtain ⟨⟨t119, t120⟩, A40, H⟩ := H
  replace H : ((group_Mean.f k l1).bind fun bt123 => ((mootlaw5_shared.f k).bind fun t126 => (if t126 = true then ((group_Check.f k l1).bind fun t127 => (mootlaw5_GroupSums.j0 k l0 l1 t118 t119 t120 bt123.1 bt123.2.1 bt123.2.2 (t127 != t118))) else (mootlaw5_GroupSums.j0 k l0 l1 t118 t119 t120 bt123.1 bt123.2.1 bt123.2.2 true)))) = some r := H
  have A4 := Aside0.mk A40
  clear A40
  replace H := Option.bind_eq_some_iff.mp H
  obtain ⟨⟨t123, t124, t125⟩, A50, H⟩ := H
  replace H : ((mootlaw5_shared.f k).bind fun t126 => (if t126 = true then ((group_Check.f k l1).bind fun t127 => (mootlaw5_GroupSums.j0 k l0 l1 t118 t119 t120 t123 t124 t125 (t127 != t118))) else (mootlaw5_GroupSums.j0 k l0 l1 t118 t119 t120 t123 t124 t125 true))) = some r := H
  have A5 := Aside0.mk A50
  clear A50
  have HC6 := Aside0.mk H
  clear H
  go_enter Try.func8, Try.ntmps8
  go_upto_region 4 with (first | ((with_reducible refine gate_callee (f := 10) rfl ?_); refine goesL_ (some 23) rfl rfl Try.func10 (by kernel_rfl) rfl #[.slice A1 l1.length c1] rfl (by (try simp only [List.map_toArray, List.map_cons, List.map_nil]); first | done | rfl | (simp only [List.length_drop, List.length_take]; rfl)) ?_; (with_reducible refine (mootlaw5_listFault.calls k _ _ l1 t118 _ ?side1 ?side2 A3.out).mono ?_); (case side1 => repeat (first | exact HR1.out | (with_reducible refine Kd.C_alloc ?_ _) | (with_reducible refine Kd.C_drewN ?_ _) | (with_reducible refine Kd.C_drew ?_))); (case side2 => exact HC1.out); rintro e w' ⟨rfl, ⟨nd, rfl⟩⟩; refine ⟨_, rfl, ?_⟩) | ((with_reducible refine gate_callee (f := 26) rfl ?_); refine goesL_ (some 27) rfl rfl Try.func26 (by kernel_rfl) rfl #[.slice A0 l0.length c0, .slice A1 l1.length c1] rfl (by (try simp only [List.map_toArray, List.map_cons, List.map_nil]); first | done | rfl | (simp only [List.length_drop, List.length_take]; rfl)) ?_; (with_reducible refine (group_By.calls _ _ l0 _ _ l1 t119 t120 _ ?side1 ?side2 ?side3 ?side4 A4.out).mono ?_); (case side1 => repeat (first | exact HR0.out | (with_reducible refine Kd.C_alloc ?_ _) | (with_reducible refine Kd.C_drewN ?_ _) | (with_reducible refine Kd.C_drew ?_))); (case side2 => exact HC0.out); (case side3 => repeat (first | exact HR1.out | (with_reducible refine Kd.C_alloc ?_ _) | (with_reducible refine Kd.C_drewN ?_ _) | (with_reducible refine Kd.C_drew ?_))); (case side4 => exact HC1.out); rintro e w7 ⟨v121, rfl, ho0, hb⟩; refine ⟨_, rfl, ?_⟩; have n0_ := Aside0.mk (Kd.R_lower ho0 (below_size (by repeat (first | (with_reducible first | exact HB.out | apply below_alloc | apply pw_below_drewN | apply below_drew1) | exact HB.out)))); have n1_ := Aside0.mk (below_step (by repeat (first | (with_reducible first | exact HB.out | apply below_alloc | apply pw_below_drewN | apply below_drew1) | exact HB.out)) hb); clear HB; have HO122 := n0_; have HB := n1_; clear n0_ n1_; (try clear hb); (try clear hb2); (try clear hk); (try clear hi); (try clear ho0)) | ((with_reducible refine gate_callee (f := 22) rfl ?_); refine goesL_ (some 32) rfl rfl Try.func22 (by kernel_rfl) rfl #[.slice A1 l1.length c1] rfl (by (try simp only [List.map_toArray, List.map_cons, List.map_nil]); first | done | rfl | (simp only [List.length_drop, List.length_take]; rfl)) ?_; (with_reducible refine (group_Mean.calls k _ _ l1 t123 t124 t125 _ ?side1 ?side2 A5.out).mono ?_); (case side1 => repeat (first | exact (Kd.C_below HR1.out HB.out) | (with_reducible refine Kd.C_alloc ?_ _) | (with_reducible refine Kd.C_drewN ?_ _) | (with_reducible refine Kd.C_drew ?_))); (case side2 => exact HC1.out); rintro e w8 ⟨rfl, hb⟩; refine ⟨_, rfl, ?_⟩; have n0_ := Aside0.mk (Kd.R_below (by (with_reducible repeat (first | apply Kd.R_alloc | apply Kd.R_drewN | apply Kd.R_drew)); exact HO122.out) hb); have n1_ := Aside0.mk (below_step (by repeat (first | (with_reducible first | exact HB.out | apply below_alloc | apply pw_below_drewN | apply below_drew1) | exact HB.out)) hb); clear HO122; clear HB; have HO122 := n0_; have HB := n1_; clear n0_ n1_; (try clear hb); (try clear hb2); (try clear hk); (try clear hi)))
  (try simp only [Act.put, List.setIfInBounds_toArray, List.set_cons_zero, List.set_cons_succ])
  go_cut [43] (fun v43 wc => ∃ (kq : Nat) (x43_5 : Bool), v43 = .bool x43_5 ∧ Aside0 (mootlaw5_GroupSums.j0 kq l0 l1 t118 t119 t120 t123 t124 t125 x43_5 = some r) ∧ Aside0 (kq ≤ k) ∧ Aside0 (Kd.R k50 50 wc w.heap.size (fun _ => True) v121 t119) ∧ Aside0 (Below w.heap.size w wc))
  case first =>
    have H := HC6.out
    clear HC6
    replace H := Option.bind_eq_some_iff.mp H
    obtain ⟨t126, A90, H⟩ := H
    replace H : (if t126 = true then ((group_Check.f k l1).bind fun t127 => (mootlaw5_GroupSums.j0 k l0 l1 t118 t119 t120 t123 t124 t125 (t127 != t118))) else (mootlaw5_GroupSums.j0 k l0 l1 t118 t119 t120 t123 t124 t125 true)) = some r := H
    have A9 := Aside0.mk A90
    clear A90
    by_cases c10 : t126 = true
    · subst c10
      have H1 : ((group_Check.f k l1).bind fun t127 => (mootlaw5_GroupSums.j0 k l0 l1 t118 t119 t120 t123 t124 t125 (t127 != t118))) = some r := by rw [if_pos rfl] at H; exact H
      clear H
      have H := H1
      clear H1
      replace H := Option.bind_eq_some_iff.mp H
      obtain ⟨t127, A110, H⟩ := H
      replace H : (mootlaw5_GroupSums.j0 k l0 l1 t118 t119 t120 t123 t124 t125 (t127 != t118)) = some r := H
      have A11 := Aside0.mk A110
      clear A110
      have H' := Aside0.mk H
      clear H
      go_wp2_with (first | ((with_reducible refine gate_callee (f := 12) rfl ?_); refine goesL_ (some 36) rfl rfl Try.func12 (by kernel_rfl) rfl #[] rfl (by (try simp only [List.map_toArray, List.map_cons, List.map_nil]); first | done | rfl | (simp only [List.length_drop, List.length_take]; rfl)) ?_; (with_reducible refine (mootlaw5_shared.calls k  true _ A9.out).mono ?_); rintro e w12 ⟨rfl, hb⟩; refine ⟨_, rfl, ?_⟩; have n0_ := Aside0.mk (Kd.R_below (by (with_reducible repeat (first | apply Kd.R_alloc | apply Kd.R_drewN | apply Kd.R_drew)); exact HO122.out) hb); have n1_ := Aside0.mk (below_step (by repeat (first | (with_reducible first | exact HB.out | apply below_alloc | apply pw_below_drewN | apply below_drew1) | exact HB.out)) hb); clear HO122; clear HB; have HO122 := n0_; have HB := n1_; clear n0_ n1_; (try clear hb); (try clear hb2); (try clear hk); (try clear hi)) | (go_at_call 27; (with_reducible refine (group_Check.calls k _ _ l1 t127 _ ?side1 ?side2 A11.out).mono ?_); (case side1 => repeat (first | exact (Kd.C_below HR1.out HB.out) | (with_reducible refine Kd.C_alloc ?_ _) | (with_reducible refine Kd.C_drewN ?_ _) | (with_reducible refine Kd.C_drew ?_))); (case side2 => exact HC1.out); rintro e w' ⟨rfl, ⟨nd, rfl⟩⟩))
      go_meet
      case rel => exact ⟨_, ((t127 != t118)), (by first | rfl | (simp; done) | (simp [*]; done)), H', ⟨by first | omega | exact Nat.le_refl _⟩, ⟨by (with_reducible repeat (first | apply Kd.R_alloc | apply Kd.R_drewN | apply Kd.R_drew)); exact HO122.out⟩, ⟨by repeat (first | (with_reducible first | exact HB.out | apply below_alloc | apply pw_below_drewN | apply below_drew1) | exact HB.out)⟩⟩
    · replace c10 := Bool.eq_false_iff.mpr c10
      subst c10
      have H1 : (mootlaw5_GroupSums.j0 k l0 l1 t118 t119 t120 t123 t124 t125 true) = some r := by rw [if_neg (show ¬ (false = true) by decide)] at H; exact H
      clear H
      have H := H1
      clear H1
      have H' := Aside0.mk H
      clear H
      go_wp2_with (first | ((with_reducible refine gate_callee (f := 12) rfl ?_); refine goesL_ (some 36) rfl rfl Try.func12 (by kernel_rfl) rfl #[] rfl (by (try simp only [List.map_toArray, List.map_cons, List.map_nil]); first | done | rfl | (simp only [List.length_drop, List.length_take]; rfl)) ?_; (with_reducible refine (mootlaw5_shared.calls k  false _ A9.out).mono ?_); rintro e w13 ⟨rfl, hb⟩; refine ⟨_, rfl, ?_⟩; have n0_ := Aside0.mk (Kd.R_below (by (with_reducible repeat (first | apply Kd.R_alloc | apply Kd.R_drewN | apply Kd.R_drew)); exact HO122.out) hb); have n1_ := Aside0.mk (below_step (by repeat (first | (with_reducible first | exact HB.out | apply below_alloc | apply pw_below_drewN | apply below_drew1) | exact HB.out)) hb); clear HO122; clear HB; have HO122 := n0_; have HB := n1_; clear n0_ n1_; (try clear hb); (try clear hb2); (try clear hk); (try clear hi)))
      go_meet
      case rel => exact ⟨_, (true), (by first | rfl | (simp; done) | (simp [*]; done)), H', ⟨by first | omega | exact Nat.le_refl _⟩, ⟨by (with_reducible repeat (first | apply Kd.R_alloc | apply Kd.R_drewN | apply Kd.R_drew)); exact HO122.out⟩, ⟨by repeat (first | (with_reducible first | exact HB.out | apply below_alloc | apply pw_below_drewN | apply below_drew1) | exact HB.out)⟩⟩
  case rest =>
    clear HC6
    try clear c1
    try clear c2
    try clear p2
    try clear c8
    try clear c10
    try clear c12
    obtain ⟨kq, x43_5, rfl, HA, HJ5, HO_6, HB⟩ := hcut
    cases kq with
    | zero => exact absurd HA.out (by simp [mootlaw5_GroupSums.j0])
    | succ kj5 =>
      have H := HA.out
      clear HA
      simp only [mootlaw5_GroupSums.j0] at H
      by_cases c14 : x43_5 = true
      · subst c14
        have H1 : (some false) = some r := by rw [if_pos rfl] at H; exact H
        clear H
        have H := H1
        clear H1
        obtain rfl := Option.some.inj H
        go_wp2
        go_ret
        exact ⟨by first | rfl | (simp [errW_none, errW_some] <;> rfl) | (simp [*, errW_none, errW_some] <;> rfl), by repeat (first | (with_reducible first | exact HB.out | apply below_alloc | apply pw_below_drewN | apply below_drew1) | exact HB.out)⟩
      · replace c14 := Bool.eq_false_iff.mpr c14
        subst c14
        have H1 : (if t118 = 0 then (mootlaw5_GroupSums.j1 kj5 l0 l1 t118 t119 t120 t123 t124 t125 t118 ((l0.length : Int) != (l1.length : Int))) else (mootlaw5_GroupSums.j1 kj5 l0 l1 t118 t119 t120 t123 t124 t125 t118 false)) = some r := by rw [if_neg (show ¬ (false = true) by decide)] at H; exact H
        clear H
        have H := H1
        clear H1
        have HC15 := Aside0.mk H
        clear H
        go_upto_region 7 with (fail)
        go_cut [53] (fun v53 wc => ∃ (kq : Nat) (x53_14 : Bool), v53 = .bool x53_14 ∧ Aside0 (mootlaw5_GroupSums.j1 kq l0 l1 t118 t119 t120 t123 t124 t125 t118 x53_14 = some r) ∧ Aside0 (kq ≤ kj5) ∧ Aside0 (Kd.R k50 50 wc w.heap.size (fun _ => True) v121 t119) ∧ Aside0 (Below w.heap.size w wc))
        case first =>
          have H := HC15.out
          clear HC15
          by_cases c16 : t118 = 0
          · rw [if_pos c16] at H
            have c16b0 : (t118 == 0) = true := beq_iff_eq.mpr c16
            have c16b1 : (t118 != 0) = false := bne_eq_false_iff_eq.mpr c16
            clear c16
            (first | rw [c16b0] | (simp only [i64_w, i32_w]; rw [c16b0]) | skip)
            have H' := Aside0.mk H
            clear H
            go_wp2
            go_meet
            case rel => exact ⟨_, (((l0.length : Int) != (l1.length : Int))), (by first | rfl | (simp; done) | (simp [*]; done)), H', ⟨by have := HJ5.out; first | omega | exact Nat.le_refl _⟩, ⟨by (with_reducible repeat (first | apply Kd.R_alloc | apply Kd.R_drewN | apply Kd.R_drew)); exact HO_6.out⟩, ⟨by repeat (first | (with_reducible first | exact HB.out | apply below_alloc | apply pw_below_drewN | apply below_drew1) | exact HB.out)⟩⟩
          · rw [if_neg c16] at H
            have c16b0 : (t118 == 0) = false := beq_eq_false_iff_ne.mpr c16
            have c16b1 : (t118 != 0) = true := bne_iff_ne.mpr c16
            (first | rw [c16b0] | (simp only [i64_w, i32_w]; rw [c16b0]) | skip)
            have H' := Aside0.mk H
            clear H
            go_wp2
            go_meet
            case rel => exact ⟨_, (false), (by first | rfl | (simp; done) | (simp [*]; done)), H', ⟨by have := HJ5.out; first | omega | exact Nat.le_refl _⟩, ⟨by (with_reducible repeat (first | apply Kd.R_alloc | apply Kd.R_drewN | apply Kd.R_drew)); exact HO_6.out⟩, ⟨by repeat (first | (with_reducible first | exact HB.out | apply below_alloc | apply pw_below_drewN | apply below_drew1) | exact HB.out)⟩⟩
        case rest =>
          clear HC15
          try clear c1
          try clear c2
          try clear p2
          try clear c8
          try clear c10
          try clear c12
          try clear c14
          try clear c16
          try clear c16b0
          try clear c16b1
          try clear p2
          obtain ⟨kq, x53_14, rfl, HA, HJ14, HO_6, HB⟩ := hcut
          cases kq with
          | zero => exact absurd HA.out (by simp [mootlaw5_GroupSums.j1])
          | succ kj14 =>
            have H := HA.out
            clear HA
            simp only [mootlaw5_GroupSums.j1] at H
            have HC17 := Aside0.mk H
            clear H
            go_upto_if 53 with (fail)
            go_cut [5] (fun v5 wc => ∃ (kq : Nat) (x5_16 : Int), v5 = .int .i64 x5_16 ∧ Aside0 (mootlaw5_GroupSums.j2 kq l0 l1 x5_16 t119 t120 t123 t124 t125 t118 = some r) ∧ Aside0 (kq ≤ kj14) ∧ Aside0 (Kd.R k50 50 wc w.heap.size (fun _ => True) v121 t119) ∧ Aside0 (Below w.heap.size w wc))
            case first =>
              have H := HC17.out
              clear HC17
              by_cases c18 : x53_14 = true
              · subst c18
                have H1 : (mootlaw5_GroupSums.j2 kj14 l0 l1 3 t119 t120 t123 t124 t125 t118) = some r := by rw [if_pos rfl] at H; exact H
                clear H
                have H := H1
                clear H1
                have H' := Aside0.mk H
                clear H
                go_wp2
                go_meet
                case rel => exact ⟨_, (3), (by first | rfl | (simp; done) | (simp [*]; done)), H', ⟨by have := HJ5.out; have := HJ14.out; first | omega | exact Nat.le_refl _⟩, ⟨by (with_reducible repeat (first | apply Kd.R_alloc | apply Kd.R_drewN | apply Kd.R_drew)); exact HO_6.out⟩, ⟨by repeat (first | (with_reducible first | exact HB.out | apply below_alloc | apply pw_below_drewN | apply below_drew1) | exact HB.out)⟩⟩
              · replace c18 := Bool.eq_false_iff.mpr c18
                subst c18
                have H1 : (mootlaw5_GroupSums.j2 kj14 l0 l1 t118 t119 t120 t123 t124 t125 t118) = some r := by rw [if_neg (show ¬ (false = true) by decide)] at H; exact H
                clear H
                have H := H1
                clear H1
                have H' := Aside0.mk H
                clear H
                go_wp2
                go_meet
                case rel => exact ⟨_, (t118), (by first | rfl | (simp; done) | (simp [*]; done)), H', ⟨by have := HJ5.out; have := HJ14.out; first | omega | exact Nat.le_refl _⟩, ⟨by (with_reducible repeat (first | apply Kd.R_alloc | apply Kd.R_drewN | apply Kd.R_drew)); exact HO_6.out⟩, ⟨by repeat (first | (with_reducible first | exact HB.out | apply below_alloc | apply pw_below_drewN | apply below_drew1) | exact HB.out)⟩⟩
            case rest =>
              clear HC17
              try clear c1
              try clear c2
              try clear p2
              try clear c8
              try clear c10
              try clear c12
              try clear c14
              try clear c16
              try clear c16b0
              try clear c16b1
              try clear c18
              try clear p2
              obtain ⟨kq, x5_16, rfl, HA, HJ16, HO_6, HB⟩ := hcut
              cases kq with
              | zero => exact absurd HA.out (by simp [mootlaw5_GroupSums.j2])
              | succ kj16 =>
                have H := HA.out
                clear HA
                simp only [mootlaw5_GroupSums.j2] at H
                have HC19 := Aside0.mk H
                clear H
                go_upto_if 55 with (fail)
                go_cut [12] (fun v12 wc => ∃ (kq : Nat) (x12_18 : List (S50)), Aside0 (mootlaw5_GroupSums.j5 kq l1 x5_16 t119 t120 t123 t124 t125 t118 x12_18 = some r) ∧ Aside0 (kq ≤ kj16) ∧ Aside0 (Kd.R k50 50 wc w.heap.size (fun k_ => some k_ ≠ (v12 : Value).ownBlock) v121 t119) ∧ Aside0 (Kd.R k50 50 wc w.heap.size (fun k_ => some k_ ≠ (v121 : Value).ownBlock) v12 x12_18) ∧ Aside0 (Below w.heap.size w wc))
                case first =>
                  have H := HC19.out
                  clear HC19
                  by_cases c20 : x5_16 = 0
                  · rw [if_pos c20] at H
                    have c20b0 : (x5_16 == 0) = true := beq_iff_eq.mpr c20
                    have c20b1 : (x5_16 != 0) = false := bne_eq_false_iff_eq.mpr c20
                    clear c20
                    (first | rw [c20b0] | (simp only [i64_w, i32_w]; rw [c20b0]) | skip)
                    replace H := Option.bind_eq_some_iff.mp H
                    obtain ⟨t128, A210, H⟩ := H
                    replace H : ((compactInts.f t128).bind fun t131 => (mootlaw5_GroupSums.l0 kj16 l0 l1 x5_16 t119 t120 t123 t124 t125 t118 ([] : List (S50)) t131 (t131.length : Int) 0)) = some r := H
                    have A21 := Aside0.mk A210
                    clear A210
                    replace H := Option.bind_eq_some_iff.mp H
                    obtain ⟨t131, A220, H⟩ := H
                    replace H : (mootlaw5_GroupSums.l0 kj16 l0 l1 x5_16 t119 t120 t123 t124 t125 t118 ([] : List (S50)) t131 (t131.length : Int) 0) = some r := H
                    have A22 := Aside0.mk A220
                    clear A220
                    have H' := Aside0.mk H
                    clear H
                    go_wp2_with (first | (go_at_call 16; refine (sortedSeq.first _ _ _ _).mono ?_; rintro e wb_ ⟨rfl, rfl⟩) | (go_at_call 15; (with_reducible refine (sortedSeq.at_ _ l0 t128 _ ?side1 ?sideB A21.out).mono ?_); (case side1 => refine ⟨_, _, ?_, (World.cell?_alloc_new _ _ _ 0).trans rfl⟩; repeat (first | exact (Kd.C_below HR0.out HB.out) | (with_reducible refine Kd.C_alloc ?_ _) | (with_reducible refine Kd.C_drewN ?_ _) | (with_reducible refine Kd.C_drew ?_))); (case sideB => first | exact Nat.lt_succ_self _ | simp); rintro e w23 ⟨v129, rfl, ho0, hb⟩; have n0_ := Aside0.mk (Kd.R_below (by (with_reducible repeat (first | apply Kd.R_alloc | apply Kd.R_drewN | apply Kd.R_drew)); exact HO_6.out) hb); have n1_ := Aside0.mk (Kd.R_lower ho0 (below_size (by repeat (first | (with_reducible first | exact HB.out | apply below_alloc | apply pw_below_drewN | apply below_drew1) | exact HB.out)))); have n2_ := Aside0.mk (below_step (by repeat (first | (with_reducible first | exact HB.out | apply below_alloc | apply pw_below_drewN | apply below_drew1) | exact HB.out)) hb); clear HO_6; clear HB; have HO_6 := n0_; have HO130 := n1_; have HB := n2_; clear n0_ n1_ n2_; (try clear hb); (try clear hb2); (try clear hk); (try clear hi); (try clear ho0); obtain ⟨Ao24, co24, eo24⟩ := Kd.R_slice HO130.out; subst eo24) | ((with_reducible refine gate_callee (f := 28) rfl ?_); refine goesL_ (some 59) rfl rfl Try.func28 (by kernel_rfl) rfl #[.slice Ao24 t128.length co24] rfl (by (try simp only [List.map_toArray, List.map_cons, List.map_nil]); first | done | rfl | (simp only [List.length_drop, List.length_take]; rfl)) ?_; (with_reducible refine (compactInts.calls (fun k_ => some k_ = (.slice Ao24 t128.length co24 : Value).ownBlock) (.slice Ao24 t128.length co24) t128 t131 w _ ?side1 ?side2 A22.out).mono ?_); (case side1 => repeat (first | (with_reducible first | exact HB.out | apply below_alloc | apply pw_below_drewN | apply below_drew1) | exact HB.out)); (case side2 => exact Kd.R_tight rfl HO130.out); rintro e w25 ⟨v132, rfl, ho0, hb, hkp⟩; refine ⟨_, rfl, ?_⟩; have n0_ := Aside0.mk (Kd.R_mono (ok' := fun k_ => True) (Kd.R_keptB ((Kd.R_apart' HO_6.out (Kd.R_typed HO130.out) (by decide))) hkp (fun k_ hk_ hs_ => (hk_.2) hs_)) (fun k_ hk_ => trivial)); have n1_ := Aside0.mk (Kd.R_mono (ok' := fun k_ => True) ho0 (fun k_ hk_ => trivial)); have n2_ := Aside0.mk (hb); clear HO_6; clear HB; clear HO130; have HO_6 := n0_; have HO133 := n1_; have HB := n2_; clear n0_ n1_ n2_; (try clear hb); (try clear hkp); (try clear ho0); obtain ⟨Ao26, co26, eo26⟩ := Kd.R_slice HO133.out; subst eo26))
                    go_loopg [12, 61] kj16 (fun kq v12 v61 w' => ∃ (x12_4 : List (S50)) (x61_4 : Int), v61 = .int .i64 x61_4 ∧ Aside0 (mootlaw5_GroupSums.l0 kq l0 l1 x5_16 t119 t120 t123 t124 t125 t118 x12_4 t131 (t131.length : Int) x61_4 = some r) ∧ Aside0 (kq ≤ kj16) ∧ Aside0 (Kd.R k50 50 w' w.heap.size (fun k_ => some k_ ≠ (v12 : Value).ownBlock) v121 t119) ∧ Aside0 (Kd.R k50 50 w' w.heap.size (fun k_ => some k_ ≠ (v121 : Value).ownBlock) v12 x12_4) ∧ Aside0 (Kd.R (Kd.int .i64) 3 w' w.heap.size (fun _ => True) (.slice Ao26 t131.length co26) t131) ∧ Aside0 (Below w.heap.size w w'))
                    case atStart => exact ⟨(([] : List (S50))), (0), (by first | rfl | (simp; done) | (simp [*]; done)), H', ⟨Nat.le_refl _⟩, ⟨by (with_reducible repeat (first | apply Kd.R_alloc | apply Kd.R_drewN | apply Kd.R_drew)); exact Kd.R_mono HO_6.out (fun _ hk => (by simp [Value.ownBlock]))⟩, ⟨by first | exact Kd.R_nil _ _ _ _ _ | exact Kd.N_nil _ _ _ _ _ | exact Kd.V_nil _ _ _ _ _ | exact Kd.Q_nil _ _ _ _ _ | exact Kd.S_nil _ _ _ _ _⟩, ⟨by (with_reducible repeat (first | apply Kd.R_alloc | apply Kd.R_drewN | apply Kd.R_drew)); exact HO133.out⟩, ⟨by repeat (first | (with_reducible first | exact HB.out | apply below_alloc | apply pw_below_drewN | apply below_drew1) | exact HB.out)⟩⟩
                    case round =>
                      clear H'
                      try clear c1
                      try clear c2
                      try clear p2
                      try clear c8
                      try clear c10
                      try clear c12
                      try clear c14
                      try clear c15
                      try clear c16
                      try clear c16b0
                      try clear c16b1
                      try clear c18
                      try clear c20
                      try clear c20b0
                      try clear c20b1
                      try clear c22
                      try clear c26
                      try clear p2
                      obtain ⟨x12_4, x61_4, rfl, HA, HK4, HO_6, HO_12, HO_59, HB⟩ := hrel
                      cases gk with
                      | zero => exact absurd HA.out (by simp [mootlaw5_GroupSums.l0])
                      | succ k4 =>
                        have H := HA.out
                        clear HA
                        simp only [mootlaw5_GroupSums.l0] at H
                        by_cases c27 : x61_4 < (t131.length : Int)
                        · rw [if_pos c27] at H
                          have c27b0 : decide (x61_4 < (t131.length : Int)) = true := decide_eq_true c27
                          clear c27
                          by_cases c28 : 0 ≤ x61_4
                          · rw [if_pos c28] at H
                            have c28b0 : decide (0 ≤ x61_4) = true := decide_eq_true c28
                            clear c28
                            by_cases c29 : x61_4 < (t131.length : Int)
                            · rw [if_pos c29] at H
                              have c29b0 : decide (x61_4 < (t131.length : Int)) = true := decide_eq_true c29
                              clear c29
                              have H' := Aside0.mk H
                              clear H
                              have p134 : 0 ≤ (x61_4 : Int) := of_decide_eq_true (by first | (with_reducible assumption) | assumption)
                              have q134 : x61_4 < (t131.length : Int) := of_decide_eq_true (by first | (with_reducible assumption) | assumption)
                              obtain ⟨ad134, e134, hx134_0⟩ := Kd.at_int (Kd.R_reads' HO_59.out).2.2 x61_4 p134 q134
                              cases e134
                              replace p134 := eq_true p134
                              replace q134 := eq_true q134
                              go_wp2_with (first | ((with_reducible refine gate_dst (N := 15) rfl ?_); (try (refine gate_guard (by rfl) ?_; dsimp only)); refine box_event ?hg (N := 15) ?hd (cs := #[.int .i64 0, .int .i64 0, .int .i64 0]) (t := 50) ?hr ?_; (case hd => rfl); (case hg => rfl); (case hr => first | (go_simp; done) | (go_simp; rfl)); intro gb135 hg w30 hbox hb; have n0_ := Aside0.mk (Kd.R_below (Kd.R_elderB (by (with_reducible repeat (first | apply Kd.R_alloc | apply Kd.R_drewN | apply Kd.R_drew)); exact HO_6.out) gb135 (Nat.le_of_eq hg.symm)) hb); have n1_ := Aside0.mk (Kd.R_below (Kd.R_elderB (by (with_reducible repeat (first | apply Kd.R_alloc | apply Kd.R_drewN | apply Kd.R_drew)); exact HO_12.out) gb135 (Nat.le_of_eq hg.symm)) hb); have n2_ := Aside0.mk (Kd.R_below (by (with_reducible repeat (first | apply Kd.R_alloc | apply Kd.R_drewN | apply Kd.R_drew)); exact HO_59.out) hb); have n3_ := Aside0.mk (below_step (by repeat (first | (with_reducible first | exact HB.out | apply below_alloc | apply pw_below_drewN | apply below_drew1) | exact HB.out)) hb); have n4_ := Aside0.mk (hbox); have n5_ := Aside0.mk ((by rw [hg]; exact (below_size (by repeat (first | (with_reducible first | exact HB.out | apply below_alloc | apply pw_below_drewN | apply below_drew1) | exact HB.out))) : w.heap.size ≤ gb135)); have n6_ := Aside0.mk ((by rw [hg]; exact (below_size (by repeat (first | (with_reducible first | exact HB.out | apply below_alloc | apply pw_below_drewN | apply below_drew1) | exact HB.out))) : w.heap.size ≤ gb135)); clear HO_6; clear HO_12; clear HO_59; clear HB; have HO_6 := n0_; have HO_12 := n1_; have HO_59 := n2_; have HB := n3_; have BK135 := n4_; have GW135 := n5_; have GE135 := n6_; clear n0_ n1_ n2_ n3_ n4_ n5_ n6_; clear hb hbox hg; have hcz31_0 : w30.cell? ⟨gb135, 0, none⟩ = some (.int .i64 0) := (blk_cell BK135.out 0).trans rfl; have hcz31_1 : w30.cell? ⟨gb135, 1, none⟩ = some (.int .i64 0) := (blk_cell BK135.out 1).trans rfl; have hcz31_2 : w30.cell? ⟨gb135, 2, none⟩ = some (.int .i64 0) := (blk_cell BK135.out 2).trans rfl; have hfz31_0 := blk_frozen BK135.out 0; have hfz31_1 := blk_frozen BK135.out 1; have hfz31_2 := blk_frozen BK135.out 2))
                              go_loopg [69] k4 (fun kq v69 w' => ∃ (x69_5 : Int) (x136001_5 : Int) (x136002_5 : Int), v69 = .int .i64 x69_5 ∧ Aside0 (mootlaw5_GroupSums.l1 kq l0 l1 x5_16 t119 t120 t123 t124 t125 t118 x12_4 (rd t131 x61_4) t131 (t131.length : Int) x61_4 l0 (l0.length : Int) x69_5 (rd t131 x61_4) x136001_5 x136002_5 = some r) ∧ Aside0 (kq ≤ k4) ∧ Aside0 (Kd.R k50 50 w' w.heap.size (fun k_ => some k_ ≠ (u12 : Value).ownBlock ∧ k_ ≠ gb135) v121 t119) ∧ Aside0 (Kd.R k50 50 w' w.heap.size (fun k_ => some k_ ≠ (v121 : Value).ownBlock ∧ k_ ≠ gb135) u12 x12_4) ∧ Aside0 (Kd.R (Kd.int .i64) 3 w' w.heap.size (fun _ => True) (.slice (some ad134) t131.length co26) t131) ∧ Aside0 (w'.heap[gb135]? = some (.cells #[.int .i64 (rd t131 x61_4), .int .i64 x136001_5, .int .i64 x136002_5] 50 (0, 0))) ∧ Aside0 (Below w.heap.size w w'))
                              case atStart => exact ⟨(0), (0), (0), (by first | rfl | (simp; done) | (simp [*]; done)), H', ⟨Nat.le_refl _⟩, ⟨by (with_reducible repeat (first | apply Kd.R_alloc | apply Kd.R_drewN | apply Kd.R_drew)); exact Kd.R_mono (Kd.R_far (p := ⟨gb135, 2, none⟩) (Kd.R_far (p := ⟨gb135, 1, none⟩) (Kd.R_far (p := ⟨gb135, 0, none⟩) (Kd.R_mono HO_6.out (fun k_ hk => (⟨hk, hk.2⟩ : _ ∧ k_ ≠ gb135))) (fun _ hk => hk.2) (.int .i64 (rd t131 x61_4))) (fun _ hk => hk.2) (.int .i64 0)) (fun _ hk => hk.2) (.int .i64 0)) (fun _ hk => ⟨hk.1.1, hk.1.2⟩)⟩, ⟨by (with_reducible repeat (first | apply Kd.R_alloc | apply Kd.R_drewN | apply Kd.R_drew)); exact Kd.R_mono (Kd.R_far (p := ⟨gb135, 2, none⟩) (Kd.R_far (p := ⟨gb135, 1, none⟩) (Kd.R_far (p := ⟨gb135, 0, none⟩) (Kd.R_mono HO_12.out (fun k_ hk => (⟨hk, hk.2⟩ : _ ∧ k_ ≠ gb135))) (fun _ hk => hk.2) (.int .i64 (rd t131 x61_4))) (fun _ hk => hk.2) (.int .i64 0)) (fun _ hk => hk.2) (.int .i64 0)) (fun _ hk => ⟨hk.1.1, hk.1.2⟩)⟩, ⟨by (with_reducible repeat (first | apply Kd.R_alloc | apply Kd.R_drewN | apply Kd.R_drew)); exact Kd.R_mono (Kd.R_far (p := ⟨gb135, 2, none⟩) (Kd.R_far (p := ⟨gb135, 1, none⟩) (Kd.R_far (p := ⟨gb135, 0, none⟩) (Kd.R_types HO_59.out BK135.out (by decide)) (fun _ hk => hk.2) (.int .i64 (rd t131 x61_4))) (fun _ hk => hk.2) (.int .i64 0)) (fun _ hk => hk.2) (.int .i64 0)) (fun _ hk => trivial)⟩, ⟨by (with_reducible repeat (first | refine blk_drewN ?_ _ | refine blk_drew ?_ | refine blk_alloc ?_ _)); refine blk_put (cs := #[.int .i64 (rd t131 x61_4), .int .i64 0, .int .i64 0]) ?_ 2 _ rfl; (with_reducible repeat (first | refine blk_drewN ?_ _ | refine blk_drew ?_ | refine blk_alloc ?_ _)); refine blk_put (cs := #[.int .i64 (rd t131 x61_4), .int .i64 0, .int .i64 0]) ?_ 1 _ rfl; (with_reducible repeat (first | refine blk_drewN ?_ _ | refine blk_drew ?_ | refine blk_alloc ?_ _)); refine blk_put (cs := #[.int .i64 0, .int .i64 0, .int .i64 0]) ?_ 0 _ rfl; (with_reducible repeat (first | refine blk_drewN ?_ _ | refine blk_drew ?_ | refine blk_alloc ?_ _)); exact BK135.out⟩, ⟨by repeat (first | (with_reducible first | exact HB.out | apply below_alloc | apply pw_below_drewN | apply below_drew1 | refine below_set ?_ GE135.out) | exact HB.out)⟩⟩
                              case round =>
                                clear H'
                                try clear c1
                                try clear p1
                                try clear q1
                                try clear hx1
                                try clear c2
                                try clear p2
                                try clear c8
                                try clear c10
                                try clear c12
                                try clear p13
                                try clear q13
                                try clear hx13
                                try clear c14
                                try clear c15
                                try clear c16
                                try clear c16b0
                                try clear c16b1
                                try clear c18
                                try clear c20
                                try clear c20b0
                                try clear c20b1
                                try clear c22
                                try clear c26
                                try clear c27
                                try clear c27b0
                                try clear c28
                                try clear c28b0
                                try clear c29
                                try clear c29b0
                                try clear hcz31_0
                                try clear hcz31_1
                                try clear hcz31_2
                                try clear hfz31_0
                                try clear hfz31_1
                                try clear hfz31_2
                                try clear hx134_0
                                try clear p134
                                try clear p2
                                try clear q134
                                obtain ⟨x69_5, x136001_5, x136002_5, rfl, HA, HK5, HO_6, HO_12, HO_59, BK135, HB⟩ := hrel
                                cases gk with
                                | zero => exact absurd HA.out (by simp [mootlaw5_GroupSums.l1])
                                | succ k5 =>
                                  have H := HA.out
                                  clear HA
                                  simp only [mootlaw5_GroupSums.l1] at H
                                  by_cases c32 : x69_5 < (l0.length : Int)
                                  · rw [if_pos c32] at H
                                    have c32b0 : decide (x69_5 < (l0.length : Int)) = true := decide_eq_true c32
                                    clear c32
                                    by_cases c33 : 0 ≤ x69_5
                                    · rw [if_pos c33] at H
                                      have c33b0 : decide (0 ≤ x69_5) = true := decide_eq_true c33
                                      clear c33
                                      by_cases c34 : x69_5 < (l0.length : Int)
                                      · rw [if_pos c34] at H
                                        have c34b0 : decide (x69_5 < (l0.length : Int)) = true := decide_eq_true c34
                                        clear c34
                                        by_cases c35 : (rd l0 x69_5) = (rd t131 x61_4)
                                        · rw [if_pos c35] at H
                                          have c35b0 : ((rd l0 x69_5) == (rd t131 x61_4)) = true := beq_iff_eq.mpr c35
                                          have c35b1 : ((rd l0 x69_5) != (rd t131 x61_4)) = false := bne_eq_false_iff_eq.mpr c35
                                          clear c35
                                          by_cases c36 : x69_5 < (l1.length : Int)
                                          · rw [if_pos c36] at H
                                            have c36b0 : decide (x69_5 < (l1.length : Int)) = true := decide_eq_true c36
                                            clear c36
                                            have H' := Aside0.mk H
                                            clear H
                                            have p136 : 0 ≤ (x69_5 : Int) := of_decide_eq_true (by first | (with_reducible assumption) | assumption)
                                            have q136 : x69_5 < (l0.length : Int) := of_decide_eq_true (by first | (with_reducible assumption) | assumption)
                                            obtain ⟨ad136, e136, hx136_0⟩ := Kd.at_int HR0.out x69_5 p136 q136
                                            cases e136
                                            (try replace hx136_0 := (HB.out.cell (World.block_lt_of_cell? w _ hx136_0)).trans hx136_0)
                                            replace p136 := eq_true p136
                                            replace q136 := eq_true q136
                                            have hcz37_0 : wr.cell? ⟨gb135, 0, none⟩ = some (.int .i64 (rd t131 x61_4)) := (blk_cell BK135.out 0).trans rfl
                                            have hcz37_1 : wr.cell? ⟨gb135, 1, none⟩ = some (.int .i64 x136001_5) := (blk_cell BK135.out 1).trans rfl
                                            have hcz37_2 : wr.cell? ⟨gb135, 2, none⟩ = some (.int .i64 x136002_5) := (blk_cell BK135.out 2).trans rfl
                                            have hfz37_0 := blk_frozen BK135.out 0
                                            have hfz37_1 := blk_frozen BK135.out 1
                                            have hfz37_2 := blk_frozen BK135.out 2
                                            try go_wp2
                                            have n0_ : Aside0 (Kd.R k50 50 (wr.setCell ⟨gb135, 1, none⟩ (.int .i64 (wrap64 (x136001_5 + 1)))) w.heap.size (fun k_ => some k_ ≠ (u12 : Value).ownBlock ∧ k_ ≠ gb135) v121 t119) := ⟨by (with_reducible repeat (first | apply Kd.R_alloc | apply Kd.R_drewN | apply Kd.R_drew)); exact Kd.R_mono (Kd.R_far (p := ⟨gb135, 1, none⟩) (Kd.R_mono HO_6.out (fun k_ hk => (⟨hk, hk.2⟩ : _ ∧ k_ ≠ gb135))) (fun _ hk => hk.2) (.int .i64 (wrap64 (x136001_5 + 1)))) (fun _ hk => ⟨hk.1.1, hk.1.2⟩)⟩
                                            have n1_ : Aside0 (Kd.R k50 50 (wr.setCell ⟨gb135, 1, none⟩ (.int .i64 (wrap64 (x136001_5 + 1)))) w.heap.size (fun k_ => some k_ ≠ (v121 : Value).ownBlock ∧ k_ ≠ gb135) u12 x12_4) := ⟨by (with_reducible repeat (first | apply Kd.R_alloc | apply Kd.R_drewN | apply Kd.R_drew)); exact Kd.R_mono (Kd.R_far (p := ⟨gb135, 1, none⟩) (Kd.R_mono HO_12.out (fun k_ hk => (⟨hk, hk.2⟩ : _ ∧ k_ ≠ gb135))) (fun _ hk => hk.2) (.int .i64 (wrap64 (x136001_5 + 1)))) (fun _ hk => ⟨hk.1.1, hk.1.2⟩)⟩
                                            have n2_ : Aside0 (Kd.R (Kd.int .i64) 3 (wr.setCell ⟨gb135, 1, none⟩ (.int .i64 (wrap64 (x136001_5 + 1)))) w.heap.size (fun _ => True) (.slice (some ad134) t131.length co26) t131) := ⟨by (with_reducible repeat (first | apply Kd.R_alloc | apply Kd.R_drewN | apply Kd.R_drew)); exact Kd.R_mono (Kd.R_far (p := ⟨gb135, 1, none⟩) (Kd.R_types HO_59.out BK135.out (by decide)) (fun _ hk => hk.2) (.int .i64 (wrap64 (x136001_5 + 1)))) (fun _ hk => trivial)⟩
                                            have n3_ : Aside0 ((wr.setCell ⟨gb135, 1, none⟩ (.int .i64 (wrap64 (x136001_5 + 1)))).heap[gb135]? = some (.cells #[.int .i64 (rd t131 x61_4), .int .i64 (wrap64 (x136001_5 + 1)), .int .i64 x136002_5] 50 (0, 0))) := ⟨by (with_reducible repeat (first | refine blk_drewN ?_ _ | refine blk_drew ?_ | refine blk_alloc ?_ _)); refine blk_put (cs := #[.int .i64 (rd t131 x61_4), .int .i64 x136001_5, .int .i64 x136002_5]) ?_ 1 _ rfl; (with_reducible repeat (first | refine blk_drewN ?_ _ | refine blk_drew ?_ | refine blk_alloc ?_ _)); exact BK135.out⟩
                                            have n4_ : Aside0 (Below w.heap.size w (wr.setCell ⟨gb135, 1, none⟩ (.int .i64 (wrap64 (x136001_5 + 1))))) := ⟨by repeat (first | (with_reducible first | exact HB.out | apply below_alloc | apply pw_below_drewN | apply below_drew1 | refine below_set ?_ GE135.out) | exact HB.out)⟩
                                            (try clear HO_6)
                                            (try clear HO_12)
                                            (try clear HO_59)
                                            (try clear BK135)
                                            (try clear HB)
                                            generalize (wr.setCell ⟨gb135, 1, none⟩ (.int .i64 (wrap64 (x136001_5 + 1)))) = w38 at n0_ n1_ n2_ n3_ n4_ ⊢
                                            have HO_6 := n0_
                                            have HO_12 := n1_
                                            have HO_59 := n2_
                                            have BK135 := n3_
                                            have HB := n4_
                                            clear n0_ n1_ n2_ n3_ n4_
                                            have n0_ := Aside0.mk (Kd.R_drew HO_6.out)
                                            have n1_ := Aside0.mk (Kd.R_drew HO_12.out)
                                            have n2_ := Aside0.mk (Kd.R_drew HO_59.out)
                                            have n3_ := Aside0.mk (blk_drew BK135.out)
                                            have n4_ := Aside0.mk (below_drew1 HB.out)
                                            clear HO_6
                                            clear HO_12
                                            clear HO_59
                                            clear BK135
                                            clear HB
                                            have HO_6 := n0_
                                            have HO_12 := n1_
                                            have HO_59 := n2_
                                            have BK135 := n3_
                                            have HB := n4_
                                            clear n0_ n1_ n2_ n3_ n4_
                                            have p137 : 0 ≤ (x69_5 : Int) := of_decide_eq_true (by first | (with_reducible assumption) | assumption)
                                            have q137 : x69_5 < (l1.length : Int) := of_decide_eq_true (by first | (with_reducible assumption) | assumption)
                                            obtain ⟨ad137, e137, hx137_0⟩ := Kd.at_int HR1.out x69_5 p137 q137
                                            have hw137_0 := hx137_0
                                            cases e137
                                            (try replace hx137_0 := (HB.out.cell (World.block_lt_of_cell? w _ hx137_0)).trans hx137_0)
                                            replace p137 := eq_true p137
                                            replace q137 := eq_true q137
                                            refine start_ (n := 9) (S := fun w' => w'.cell? ⟨gb135, 0, none⟩ = some (.int .i64 (rd t131 x61_4)) ∧ w'.cell? ⟨gb135, 1, none⟩ = some (.int .i64 (wrap64 (x136001_5 + 1))) ∧ w'.cell? ⟨gb135, 2, none⟩ = some (.int .i64 x136002_5) ∧ w'.cell? (ad137.add (x69_5).toNat) = some (.int .i64 (rd l1 x69_5))) (ds := [8]) #[false, false, false, false, false, false, false, false, false] (by kernel_rfl) rfl rfl ⟨(blk_cell BK135.out 0).trans rfl, (blk_cell BK135.out 1).trans rfl, (blk_cell BK135.out 2).trans rfl, ((HB.out.cell (World.block_lt_of_cell? w _ hw137_0)).trans hw137_0)⟩ (fun hHeld => ?_); refine with_tabW mootlaw5_GroupSums.tab20 mootlaw5_GroupSums.bits20 (fun HT_ HW_ => ?_)
                                            generalize w38.drew = w39 at HO_6 HO_12 HO_59 BK135 HB hx137_0 hHeld ⊢
                                            refine pure_ (i := 0) (N := some 81) (v := ?_) (a' := ?_) #[true, false, false, false, false, false, false, false, false] rfl rfl (any_of HT_.out (by kernel_rfl)) (fun _ _ _ h => h) (Or.inl ⟨by rfl, ?_⟩) ?_ ?_
                                            rotate_left
                                            · intro w'
                                              go_simp
                                              with_reducible rfl
                                            rotate_left
                                            · simp only [Act.put, List.setIfInBounds_toArray, List.set_cons_zero, List.set_cons_succ, i64_w, i32_w]
                                              rfl
                                            refine pure_ (i := 2) (N := some 83) (v := ?_) (a' := ?_) #[true, false, true, false, false, false, false, false, false] rfl rfl (any_of HT_.out (by kernel_rfl)) (fun _ _ _ h => h) (Or.inl ⟨by rfl, ?_⟩) ?_ ?_
                                            rotate_left
                                            · intro w'
                                              go_simp
                                              with_reducible rfl
                                            rotate_left
                                            · simp only [Act.put, List.setIfInBounds_toArray, List.set_cons_zero, List.set_cons_succ, i64_w, i32_w]
                                              rfl
                                            refine pure_ (i := 3) (N := some 84) (v := ?_) (a' := ?_) #[true, false, true, true, false, false, false, false, false] rfl rfl (any_of HT_.out (by kernel_rfl)) (fun _ _ _ h => h) (Or.inl ⟨by rfl, ?_⟩) ?_ ?_
                                            rotate_left
                                            · intro w'
                                              go_simp
                                              with_reducible rfl
                                            rotate_left
                                            · simp only [Act.put, List.setIfInBounds_toArray, List.set_cons_zero, List.set_cons_succ, i64_w, i32_w]
                                              rfl
                                            refine pure_ (i := 4) (N := some 85) (v := ?_) (a' := ?_) #[true, false, true, true, true, false, false, false, false] rfl rfl (any_of HT_.out (by kernel_rfl)) (fun _ _ _ h => h) (Or.inl ⟨by rfl, ?_⟩) ?_ ?_
                                            rotate_left
                                            · intro w'
                                              go_simp
                                              with_reducible rfl
                                            rotate_left
                                            · simp only [Act.put, List.setIfInBounds_toArray, List.set_cons_zero, List.set_cons_succ, i64_w, i32_w]
                                              rfl
                                            refine take_ (i := 1) (N := some 82) (v := ?_) (a' := ?_) #[true, true, true, true, true, false, false, false, false] rfl rfl (take_ofW HT_.out HW_.out (by kernel_rfl)) (fun _ _ _ h => h) (Or.inl ⟨by rfl, ?_⟩) hHeld ?_ ?_
                                            rotate_left
                                            · rintro w' ⟨s0, s1, s2, s3⟩
                                              go_simp
                                              with_reducible rfl
                                            rotate_left
                                            · simp only [Act.put, List.setIfInBounds_toArray, List.set_cons_zero, List.set_cons_succ, i64_w, i32_w]
                                              rfl
                                            refine take_ (i := 5) (N := some 86) (v := ?_) (a' := ?_) #[true, true, true, true, true, true, false, false, false] rfl rfl (take_ofW HT_.out HW_.out (by kernel_rfl)) (fun _ _ _ h => h) (Or.inl ⟨by rfl, ?_⟩) hHeld ?_ ?_
                                            rotate_left
                                            · rintro w' ⟨s0, s1, s2, s3⟩
                                              go_simp
                                              with_reducible rfl
                                            rotate_left
                                            · simp only [Act.put, List.setIfInBounds_toArray, List.set_cons_zero, List.set_cons_succ, i64_w, i32_w]
                                              rfl
                                            refine pure_ (i := 6) (N := some 87) (v := ?_) (a' := ?_) #[true, true, true, true, true, true, true, false, false] rfl rfl (any_of HT_.out (by kernel_rfl)) (fun _ _ _ h => h) (Or.inl ⟨by rfl, ?_⟩) ?_ ?_
                                            rotate_left
                                            · intro w'
                                              go_simp
                                              with_reducible rfl
                                            rotate_left
                                            · simp only [Act.put, List.setIfInBounds_toArray, List.set_cons_zero, List.set_cons_succ, i64_w, i32_w]
                                              rfl
                                            refine pure_ (i := 7) (N := some 88) (v := ?_) (a' := ?_) #[true, true, true, true, true, true, true, true, false] rfl rfl (any_of HT_.out (by kernel_rfl)) (fun _ _ _ h => h) (Or.inl ⟨by rfl, ?_⟩) ?_ ?_
                                            rotate_left
                                            · intro w'
                                              go_simp
                                              with_reducible rfl
                                            rotate_left
                                            · simp only [Act.put, List.setIfInBounds_toArray, List.set_cons_zero, List.set_cons_succ, i64_w, i32_w]
                                              rfl
                                            refine last_ (i := 8) (N := none) #[true, true, true, true, true, true, true, true, true] rfl rfl (one_of HT_.out (by kernel_rfl)) (by decide) (fun K hK => ?_)
                                            have hs40 : w39.cell? ⟨gb135, 2, none⟩ = some (.int .i64 x136002_5) := (blk_cell BK135.out 2).trans rfl
                                            have hfs40 := blk_frozen BK135.out 2
                                            refine skip_ (w1 := ?_) (by rfl) rfl ?_ ?_
                                            rotate_left
                                            · go_simp
                                              rfl
                                            refine hK.out _ _ ?_
                                            clear hK K
                                            refine done_ (done_of HT_.out (by kernel_rfl)) ?_
                                            try go_wp2
                                            go_roundg k5
                                            case measure => have := HJ5.out; have := HJ14.out; have := HJ16.out; have := HK4.out; have := HK5.out; omega
                                            case rel => exact ⟨(wrap64 (x69_5 + 1)), (wrap64 (x136001_5 + 1)), (wrap64 (x136002_5 + (rd l1 x69_5))), (by first | rfl | (simp; done) | (simp [*]; done)), H', ⟨by have := HJ5.out; have := HJ14.out; have := HJ16.out; have := HK4.out; have := HK5.out; omega⟩, ⟨by (with_reducible repeat (first | apply Kd.R_alloc | apply Kd.R_drewN | apply Kd.R_drew)); exact Kd.R_mono (Kd.R_far (p := ⟨gb135, 2, none⟩) (Kd.R_mono HO_6.out (fun k_ hk => (⟨hk, hk.2⟩ : _ ∧ k_ ≠ gb135))) (fun _ hk => hk.2) (.int .i64 (wrap64 (x136002_5 + (rd l1 x69_5))))) (fun _ hk => ⟨hk.1.1, hk.1.2⟩)⟩, ⟨by (with_reducible repeat (first | apply Kd.R_alloc | apply Kd.R_drewN | apply Kd.R_drew)); exact Kd.R_mono (Kd.R_far (p := ⟨gb135, 2, none⟩) (Kd.R_mono HO_12.out (fun k_ hk => (⟨hk, hk.2⟩ : _ ∧ k_ ≠ gb135))) (fun _ hk => hk.2) (.int .i64 (wrap64 (x136002_5 + (rd l1 x69_5))))) (fun _ hk => ⟨hk.1.1, hk.1.2⟩)⟩, ⟨by (with_reducible repeat (first | apply Kd.R_alloc | apply Kd.R_drewN | apply Kd.R_drew)); exact Kd.R_mono (Kd.R_far (p := ⟨gb135, 2, none⟩) (Kd.R_types HO_59.out BK135.out (by decide)) (fun _ hk => hk.2) (.int .i64 (wrap64 (x136002_5 + (rd l1 x69_5))))) (fun _ hk => trivial)⟩, ⟨by (with_reducible repeat (first | refine blk_drewN ?_ _ | refine blk_drew ?_ | refine blk_alloc ?_ _)); refine blk_put (cs := #[.int .i64 (rd t131 x61_4), .int .i64 (wrap64 (x136001_5 + 1)), .int .i64 x136002_5]) ?_ 2 _ rfl; (with_reducible repeat (first | refine blk_drewN ?_ _ | refine blk_drew ?_ | refine blk_alloc ?_ _)); exact BK135.out⟩, ⟨by repeat (first | (with_reducible first | exact HB.out | apply below_alloc | apply pw_below_drewN | apply below_drew1 | refine below_set ?_ GE135.out) | exact HB.out)⟩⟩
                                          · rw [if_neg c36] at H
                                            exact absurd H (by simp)
                                        · rw [if_neg c35] at H
                                          have c35b0 : ((rd l0 x69_5) == (rd t131 x61_4)) = false := beq_eq_false_iff_ne.mpr c35
                                          have c35b1 : ((rd l0 x69_5) != (rd t131 x61_4)) = true := bne_iff_ne.mpr c35
                                          have H' := Aside0.mk H
                                          clear H
                                          have p136 : 0 ≤ (x69_5 : Int) := of_decide_eq_true (by first | (with_reducible assumption) | assumption)
                                          have q136 : x69_5 < (l0.length : Int) := of_decide_eq_true (by first | (with_reducible assumption) | assumption)
                                          obtain ⟨ad136, e136, hx136_0⟩ := Kd.at_int HR0.out x69_5 p136 q136
                                          cases e136
                                          (try replace hx136_0 := (HB.out.cell (World.block_lt_of_cell? w _ hx136_0)).trans hx136_0)
                                          replace p136 := eq_true p136
                                          replace q136 := eq_true q136
                                          go_wp2
                                          go_roundg k5
                                          case measure => have := HJ5.out; have := HJ14.out; have := HJ16.out; have := HK4.out; have := HK5.out; omega
                                          case rel => exact ⟨(wrap64 (x69_5 + 1)), (x136001_5), (x136002_5), (by first | rfl | (simp; done) | (simp [*]; done)), H', ⟨by have := HJ5.out; have := HJ14.out; have := HJ16.out; have := HK4.out; have := HK5.out; omega⟩, ⟨by (with_reducible repeat (first | apply Kd.R_alloc | apply Kd.R_drewN | apply Kd.R_drew)); exact HO_6.out⟩, ⟨by (with_reducible repeat (first | apply Kd.R_alloc | apply Kd.R_drewN | apply Kd.R_drew)); exact HO_12.out⟩, ⟨by (with_reducible repeat (first | apply Kd.R_alloc | apply Kd.R_drewN | apply Kd.R_drew)); exact HO_59.out⟩, ⟨by (with_reducible repeat (first | refine blk_drewN ?_ _ | refine blk_drew ?_ | refine blk_alloc ?_ _)); exact BK135.out⟩, ⟨by repeat (first | (with_reducible first | exact HB.out | apply below_alloc | apply pw_below_drewN | apply below_drew1 | refine below_set ?_ GE135.out) | exact HB.out)⟩⟩
                                      · rw [if_neg c34] at H
                                        exact absurd H (by simp)
                                    · rw [if_neg c33] at H
                                      exact absurd H (by simp)
                                  · rw [if_neg c32] at H
                                    have c32b0 : decide (x69_5 < (l0.length : Int)) = false := decide_eq_false c32
                                    clear c32
                                    by_cases c41 : x12_4.length < 5864062014805
                                    · rw [if_pos c41] at H
                                      have LMc41 := Aside0.mk c41
                                      clear c41
                                      obtain ⟨y138, hy138⟩ : ∃ y_ : List (S50), y_ = (x12_4 ++ [(⟨(rd t131 x61_4), x136001_5, x136002_5⟩ : S50)]) := ⟨_, rfl⟩
                                      replace H : (mootlaw5_GroupSums.l0 k5 l0 l1 x5_16 t119 t120 t123 t124 t125 t118 y138 t131 (t131.length : Int) (wrap64 (x61_4 + 1))) = some r := by first | (rw [hy138]; with_reducible exact H) | (have H2_ := (Option.bind_some _ _).symm.trans H; rw [hy138]; with_reducible exact H2_) | (have H2_ := (Option.bind_some _ _).symm.trans H; with_reducible exact H2_) | with_reducible exact H | (rw [hy138]; exact H) | exact H
                                      have Ny138 := Aside0.mk hy138
                                      clear hy138
                                      have H' := Aside0.mk H
                                      clear H
                                      have hcz42_0 : wr.cell? ⟨gb135, 0, none⟩ = some (.int .i64 (rd t131 x61_4)) := (blk_cell BK135.out 0).trans rfl
                                      have hcz42_1 : wr.cell? ⟨gb135, 1, none⟩ = some (.int .i64 x136001_5) := (blk_cell BK135.out 1).trans rfl
                                      have hcz42_2 : wr.cell? ⟨gb135, 2, none⟩ = some (.int .i64 x136002_5) := (blk_cell BK135.out 2).trans rfl
                                      have hfz42_0 := blk_frozen BK135.out 0
                                      have hfz42_1 := blk_frozen BK135.out 1
                                      have hfz42_2 := blk_frozen BK135.out 2
                                      go_wp2_with (first | ((with_reducible refine gate_builtin (b := .append) (xs := #[.tmp 90, .tmp 92]) rfl ?_); (try (refine gate_guard (by rfl) ?_; dsimp only)); at_builtin; refine Kd.R_append k50 (w0 := w) w.heap.size rfl (.tmp 90) (.tmp 92) 46 50 (.agg #[(.int .i64 0), (.int .i64 0), (.int .i64 0)]) 24 rfl Try.underlying46 info50 rfl (by decide) (by omega) u12 x12_4 (⟨(rd t131 x61_4), x136001_5, x136002_5⟩ : S50) [.int .i64 (rd t131 x61_4), .int .i64 x136001_5, .int .i64 x136002_5] (fun k_ => some k_ ≠ (v121 : Value).ownBlock ∧ k_ ≠ gb135) (fun _ => False) rfl rfl ?aP (fun _ hk => hk.elim) ?aF ?aO ?aB ?aS ?aL ?_; (case aP => exact k50_mkM _ _ _ (⟨(rd t131 x61_4), x136001_5, x136002_5⟩ : S50)); (case aB => exact (by repeat (first | (with_reducible first | exact HB.out | apply below_alloc | apply pw_below_drewN | apply below_drew1 | refine below_set ?_ GE135.out) | exact HB.out))); (case aF => exact (fun k_ hk => ⟨Kd.fresh' (Kd.R_lt (by (with_reducible repeat (first | apply Kd.R_alloc | apply Kd.R_drewN | apply Kd.R_drew)); exact HO_6.out)) k_ hk, Kd.freshB (g := gb135) (o := .cells #[.int .i64 (rd t131 x61_4), .int .i64 x136001_5, .int .i64 x136002_5] 50 (0, 0)) (by (with_reducible repeat (first | refine blk_drewN ?_ _ | refine blk_drew ?_ | refine blk_alloc ?_ _)); exact BK135.out) k_ hk⟩)); (case aO => exact (by (with_reducible repeat (first | apply Kd.R_alloc | apply Kd.R_drewN | apply Kd.R_drew)); exact HO_12.out)); (case aS => exact (below_size (by repeat (first | (with_reducible first | exact HB.out | apply below_alloc | apply pw_below_drewN | apply below_drew1 | refine below_set ?_ GE135.out) | exact HB.out)))); (case aL => have := LMc41.out; omega); intro v139 w43 ho hb hg hat; rw [← Ny138.out] at ho; have n0_ := Aside0.mk (Kd.R_after (ok := (fun k_ => k_ ≠ gb135)) (by (with_reducible repeat (first | apply Kd.R_alloc | apply Kd.R_drewN | apply Kd.R_drew)); exact Kd.R_mono HO_6.out (fun _ hk => ⟨hk.2, hk.1⟩)) hg hat); have n1_ := Aside0.mk (Kd.R_over' (by (with_reducible repeat (first | apply Kd.R_alloc | apply Kd.R_drewN | apply Kd.R_drew)); exact HO_59.out) (Kd.R_typed (by (with_reducible repeat (first | apply Kd.R_alloc | apply Kd.R_drewN | apply Kd.R_drew)); exact HO_12.out)) (by decide) hg); have n2_ := Aside0.mk (blk_grown (g := gb135) (o := .cells #[.int .i64 (rd t131 x61_4), .int .i64 x136001_5, .int .i64 x136002_5] 50 (0, 0)) (by (with_reducible repeat (first | refine blk_drewN ?_ _ | refine blk_drew ?_ | refine blk_alloc ?_ _)); exact BK135.out) hg (Kd.R_away HO_12.out (fun _ hk => hk.2))); have n3_ := Aside0.mk (hb); have n4_ := Aside0.mk (ho); clear HO_6; clear HO_59; clear BK135; clear HB; clear HO_12; have HO_6 := n0_; have HO_59 := n1_; have BK135 := n2_; have HB := n3_; have HO140 := n4_; clear n0_ n1_ n2_ n3_ n4_; clear ho hb hg hat))
                                      go_roundg k5
                                      case measure => have := HJ5.out; have := HJ14.out; have := HJ16.out; have := HK4.out; have := HK5.out; omega
                                      case rel => exact ⟨(y138), (wrap64 (x61_4 + 1)), (by first | rfl | (simp; done) | (simp [*]; done)), H', ⟨by have := HJ5.out; have := HJ14.out; have := HJ16.out; have := HK4.out; have := HK5.out; omega⟩, ⟨by (with_reducible repeat (first | apply Kd.R_alloc | apply Kd.R_drewN | apply Kd.R_drew)); exact Kd.R_mono HO_6.out (fun _ hk => hk.2)⟩, ⟨by (with_reducible repeat (first | apply Kd.R_alloc | apply Kd.R_drewN | apply Kd.R_drew)); exact Kd.R_mono HO140.out (fun _ hk => hk.1)⟩, ⟨by (with_reducible repeat (first | apply Kd.R_alloc | apply Kd.R_drewN | apply Kd.R_drew)); exact HO_59.out⟩, ⟨by repeat (first | (with_reducible first | exact HB.out | apply below_alloc | apply pw_below_drewN | apply below_drew1 | refine below_set ?_ GE135.out) | exact HB.out)⟩⟩
                                    · rw [if_neg c41] at H
                                      exact absurd H (by simp)
                            · rw [if_neg c29] at H
                              exact absurd H (by simp)
                          · rw [if_neg c28] at H
                            exact absurd H (by simp)
                        · rw [if_neg c27] at H
                          have c27b0 : decide (x61_4 < (t131.length : Int)) = false := decide_eq_false c27
                          clear c27
                          have H' := Aside0.mk H
                          clear H
                          go_wp2
                          go_meet
                          case rel => exact ⟨_, (x12_4), H', ⟨by have := HJ5.out; have := HJ14.out; have := HJ16.out; have := HK4.out; first | omega | exact Nat.le_refl _⟩, ⟨by (with_reducible repeat (first | apply Kd.R_alloc | apply Kd.R_drewN | apply Kd.R_drew)); exact HO_6.out⟩, ⟨by (with_reducible repeat (first | apply Kd.R_alloc | apply Kd.R_drewN | apply Kd.R_drew)); exact HO_12.out⟩, ⟨by repeat (first | (with_reducible first | exact HB.out | apply below_alloc | apply pw_below_drewN | apply below_drew1) | exact HB.out)⟩⟩
                  · rw [if_neg c20] at H
                    have c20b0 : (x5_16 == 0) = false := beq_eq_false_iff_ne.mpr c20
                    have c20b1 : (x5_16 != 0) = true := bne_iff_ne.mpr c20
                    (first | rw [c20b0] | (simp only [i64_w, i32_w]; rw [c20b0]) | skip)
                    have H' := Aside0.mk H
                    clear H
                    go_wp2
                    go_meet
                    case rel => exact ⟨_, (([] : List (S50))), H', ⟨by have := HJ5.out; have := HJ14.out; have := HJ16.out; first | omega | exact Nat.le_refl _⟩, ⟨by (with_reducible repeat (first | apply Kd.R_alloc | apply Kd.R_drewN | apply Kd.R_drew)); exact Kd.R_mono HO_6.out (fun _ hk => (by simp [Value.ownBlock]))⟩, ⟨by first | exact Kd.R_nil _ _ _ _ _ | exact Kd.N_nil _ _ _ _ _ | exact Kd.V_nil _ _ _ _ _ | exact Kd.Q_nil _ _ _ _ _ | exact Kd.S_nil _ _ _ _ _⟩, ⟨by repeat (first | (with_reducible first | exact HB.out | apply below_alloc | apply pw_below_drewN | apply below_drew1) | exact HB.out)⟩⟩
                case rest =>
                  clear HC19
                  try clear c1
                  try clear p1
                  try clear q1
                  try clear hx1
                  try clear c2
                  try clear p2
                  try clear c3
                  try clear c4
                  try clear p6
                  try clear c8
                  try clear c10
                  try clear c12
                  try clear p13
                  try clear q13
                  try clear hx13
                  try clear c14
                  try clear c15
                  try clear c16
                  try clear c16b0
                  try clear c16b1
                  try clear c18
                  try clear c20
                  try clear c20b0
                  try clear c20b1
                  try clear c22
                  try clear c26
                  try clear c27
                  try clear c27b0
                  try clear c28
                  try clear c28b0
                  try clear c29
                  try clear c29b0
                  try clear c32
                  try clear c32b0
                  try clear c33
                  try clear c33b0
                  try clear c34
                  try clear c34b0
                  try clear c35
                  try clear c35b0
                  try clear c35b1
                  try clear c36
                  try clear c36b0
                  try clear c41
                  try clear hcz31_0
                  try clear hcz31_1
                  try clear hcz31_2
                  try clear hcz37_0
                  try clear hcz37_1
                  try clear hcz37_2
                  try clear hcz42_0
                  try clear hcz42_1
                  try clear hcz42_2
                  try clear hfz31_0
                  try clear hfz31_1
                  try clear hfz31_2
                  try clear hfz37_0
                  try clear hfz37_1
                  try clear hfz37_2
                  try clear hfz42_0
                  try clear hfz42_1
                  try clear hfz42_2
                  try clear hx134_0
                  try clear hx136_0
                  try clear hx137_0
                  try clear p1
                  try clear p13
                  try clear p134
                  try clear p136
                  try clear p137
                  try clear p2
                  try clear q1
                  try clear q13
                  try clear q134
                  try clear q136
                  try clear q137
                  obtain ⟨kq, x12_18, HA, HJ18, HO_6, HO_12, HB⟩ := hcut
                  cases kq with
                  | zero => exact absurd HA.out (by simp [mootlaw5_GroupSums.j5])
                  | succ kj18 =>
                    have H := HA.out
                    clear HA
                    simp only [mootlaw5_GroupSums.j5] at H
                    have HC44 := Aside0.mk H
                    clear H
                    go_upto_region 24 with (fail)
                    go_cut [101] (fun v101 wc => ∃ (kq : Nat) (x101_43 : Bool), v101 = .bool x101_43 ∧ Aside0 (mootlaw5_GroupSums.j6 kq l1 x5_16 t119 t120 t123 t124 t125 t118 x12_18 x101_43 = some r) ∧ Aside0 (kq ≤ kj18) ∧ Aside0 (Kd.R k50 50 wc w.heap.size (fun k_ => some k_ ≠ (u12 : Value).ownBlock) v121 t119) ∧ Aside0 (Kd.R k50 50 wc w.heap.size (fun k_ => some k_ ≠ (v121 : Value).ownBlock) u12 x12_18) ∧ Aside0 (Below w.heap.size w wc))
                    case first =>
                      have H := HC44.out
                      clear HC44
                      by_cases c45 : t118 = 0
                      · rw [if_pos c45] at H
                        have c45b0 : (t118 == 0) = true := beq_iff_eq.mpr c45
                        have c45b1 : (t118 != 0) = false := bne_eq_false_iff_eq.mpr c45
                        clear c45
                        (first | rw [c45b0] | (simp only [i64_w, i32_w]; rw [c45b0]) | skip)
                        have H' := Aside0.mk H
                        clear H
                        go_wp2
                        go_meet
                        case rel => exact ⟨_, (((l1.length : Int) == 0)), (by first | rfl | (simp; done) | (simp [*]; done)), H', ⟨by have := HJ5.out; have := HJ14.out; have := HJ16.out; have := HJ18.out; first | omega | exact Nat.le_refl _⟩, ⟨by (with_reducible repeat (first | apply Kd.R_alloc | apply Kd.R_drewN | apply Kd.R_drew)); exact HO_6.out⟩, ⟨by (with_reducible repeat (first | apply Kd.R_alloc | apply Kd.R_drewN | apply Kd.R_drew)); exact HO_12.out⟩, ⟨by repeat (first | (with_reducible first | exact HB.out | apply below_alloc | apply pw_below_drewN | apply below_drew1) | exact HB.out)⟩⟩
                      · rw [if_neg c45] at H
                        have c45b0 : (t118 == 0) = false := beq_eq_false_iff_ne.mpr c45
                        have c45b1 : (t118 != 0) = true := bne_iff_ne.mpr c45
                        (first | rw [c45b0] | (simp only [i64_w, i32_w]; rw [c45b0]) | skip)
                        have H' := Aside0.mk H
                        clear H
                        go_wp2
                        go_meet
                        case rel => exact ⟨_, (false), (by first | rfl | (simp; done) | (simp [*]; done)), H', ⟨by have := HJ5.out; have := HJ14.out; have := HJ16.out; have := HJ18.out; first | omega | exact Nat.le_refl _⟩, ⟨by (with_reducible repeat (first | apply Kd.R_alloc | apply Kd.R_drewN | apply Kd.R_drew)); exact HO_6.out⟩, ⟨by (with_reducible repeat (first | apply Kd.R_alloc | apply Kd.R_drewN | apply Kd.R_drew)); exact HO_12.out⟩, ⟨by repeat (first | (with_reducible first | exact HB.out | apply below_alloc | apply pw_below_drewN | apply below_drew1) | exact HB.out)⟩⟩
                    case rest =>
                      clear HC44
                      try clear c1
                      try clear p1
                      try clear q1
                      try clear hx1
                      try clear c2
                      try clear p2
                      try clear c3
                      try clear c4
                      try clear p6
                      try clear c8
                      try clear c10
                      try clear c12
                      try clear p13
                      try clear q13
                      try clear hx13
                      try clear c14
                      try clear c15
                      try clear c16
                      try clear c16b0
                      try clear c16b1
                      try clear c18
                      try clear c20
                      try clear c20b0
                      try clear c20b1
                      try clear c22
                      try clear c26
                      try clear c27
                      try clear c27b0
                      try clear c28
                      try clear c28b0
                      try clear c29
                      try clear c29b0
                      try clear c32
                      try clear c32b0
                      try clear c33
                      try clear c33b0
                      try clear c34
                      try clear c34b0
                      try clear c35
                      try clear c35b0
                      try clear c35b1
                      try clear c36
                      try clear c36b0
                      try clear c41
                      try clear c45
                      try clear c45b0
                      try clear c45b1
                      try clear hcz31_0
                      try clear hcz31_1
                      try clear hcz31_2
                      try clear hcz37_0
                      try clear hcz37_1
                      try clear hcz37_2
                      try clear hcz42_0
                      try clear hcz42_1
                      try clear hcz42_2
                      try clear hfz31_0
                      try clear hfz31_1
                      try clear hfz31_2
                      try clear hfz37_0
                      try clear hfz37_1
                      try clear hfz37_2
                      try clear hfz42_0
                      try clear hfz42_1
                      try clear hfz42_2
                      try clear hx134_0
                      try clear hx136_0
                      try clear hx137_0
                      try clear p1
                      try clear p13
                      try clear p134
                      try clear p136
                      try clear p137
                      try clear p2
                      try clear p6
                      try clear q1
                      try clear q13
                      try clear q134
                      try clear q136
                      try clear q137
                      obtain ⟨kq, x101_43, rfl, HA, HJ43, HO_6, HO_12, HB⟩ := hcut
                      cases kq with
                      | zero => exact absurd HA.out (by simp [mootlaw5_GroupSums.j6])
                      | succ kj43 =>
                        have H := HA.out
                        clear HA
                        simp only [mootlaw5_GroupSums.j6] at H
                        have HC46 := Aside0.mk H
                        clear H
                        go_upto_if 101 with (fail)
                        go_cut [11] (fun v11 wc => ∃ (kq : Nat) (x11_45 : Int), v11 = .int .i64 x11_45 ∧ Aside0 (mootlaw5_GroupSums.j7 kq l1 x5_16 t119 t120 t123 t124 t125 x11_45 x12_18 = some r) ∧ Aside0 (kq ≤ kj43) ∧ Aside0 (Kd.R k50 50 wc w.heap.size (fun k_ => some k_ ≠ (u12 : Value).ownBlock) v121 t119) ∧ Aside0 (Kd.R k50 50 wc w.heap.size (fun k_ => some k_ ≠ (v121 : Value).ownBlock) u12 x12_18) ∧ Aside0 (Below w.heap.size w wc))
                        case first =>
                          have H := HC46.out
                          clear HC46
                          by_cases c47 : x101_43 = true
                          · subst c47
                            have H1 : (mootlaw5_GroupSums.j7 kj43 l1 x5_16 t119 t120 t123 t124 t125 11 x12_18) = some r := by rw [if_pos rfl] at H; exact H
                            clear H
                            have H := H1
                            clear H1
                            have H' := Aside0.mk H
                            clear H
                            go_wp2
                            go_meet
                            case rel => exact ⟨_, (11), (by first | rfl | (simp; done) | (simp [*]; done)), H', ⟨by have := HJ5.out; have := HJ14.out; have := HJ16.out; have := HJ18.out; have := HJ43.out; first | omega | exact Nat.le_refl _⟩, ⟨by (with_reducible repeat (first | apply Kd.R_alloc | apply Kd.R_drewN | apply Kd.R_drew)); exact HO_6.out⟩, ⟨by (with_reducible repeat (first | apply Kd.R_alloc | apply Kd.R_drewN | apply Kd.R_drew)); exact HO_12.out⟩, ⟨by repeat (first | (with_reducible first | exact HB.out | apply below_alloc | apply pw_below_drewN | apply below_drew1) | exact HB.out)⟩⟩
                          · replace c47 := Bool.eq_false_iff.mpr c47
                            subst c47
                            have H1 : (mootlaw5_GroupSums.j7 kj43 l1 x5_16 t119 t120 t123 t124 t125 t118 x12_18) = some r := by rw [if_neg (show ¬ (false = true) by decide)] at H; exact H
                            clear H
                            have H := H1
                            clear H1
                            have H' := Aside0.mk H
                            clear H
                            go_wp2
                            go_meet
                            case rel => exact ⟨_, (t118), (by first | rfl | (simp; done) | (simp [*]; done)), H', ⟨by have := HJ5.out; have := HJ14.out; have := HJ16.out; have := HJ18.out; have := HJ43.out; first | omega | exact Nat.le_refl _⟩, ⟨by (with_reducible repeat (first | apply Kd.R_alloc | apply Kd.R_drewN | apply Kd.R_drew)); exact HO_6.out⟩, ⟨by (with_reducible repeat (first | apply Kd.R_alloc | apply Kd.R_drewN | apply Kd.R_drew)); exact HO_12.out⟩, ⟨by repeat (first | (with_reducible first | exact HB.out | apply below_alloc | apply pw_below_drewN | apply below_drew1) | exact HB.out)⟩⟩
                        case rest =>
                          clear HC46
                          try clear c1
                          try clear p1
                          try clear q1
                          try clear hx1
                          try clear c2
                          try clear p2
                          try clear c3
                          try clear c4
                          try clear p6
                          try clear c8
                          try clear c10
                          try clear c12
                          try clear p13
                          try clear q13
                          try clear hx13
                          try clear c14
                          try clear c15
                          try clear c16
                          try clear c16b0
                          try clear c16b1
                          try clear c18
                          try clear c20
                          try clear c20b0
                          try clear c20b1
                          try clear c22
                          try clear c26
                          try clear c27
                          try clear c27b0
                          try clear c28
                          try clear c28b0
                          try clear c29
                          try clear c29b0
                          try clear c32
                          try clear c32b0
                          try clear c33
                          try clear c33b0
                          try clear c34
                          try clear c34b0
                          try clear c35
                          try clear c35b0
                          try clear c35b1
                          try clear c36
                          try clear c36b0
                          try clear c41
                          try clear c45
                          try clear c45b0
                          try clear c45b1
                          try clear c47
                          try clear hcz31_0
                          try clear hcz31_1
                          try clear hcz31_2
                          try clear hcz37_0
                          try clear hcz37_1
                          try clear hcz37_2
                          try clear hcz42_0
                          try clear hcz42_1
                          try clear hcz42_2
                          try clear hfz31_0
                          try clear hfz31_1
                          try clear hfz31_2
                          try clear hfz37_0
                          try clear hfz37_1
                          try clear hfz37_2
                          try clear hfz42_0
                          try clear hfz42_1
                          try clear hfz42_2
                          try clear hx134_0
                          try clear hx136_0
                          try clear hx137_0
                          try clear p1
                          try clear p13
                          try clear p134
                          try clear p136
                          try clear p137
                          try clear p2
                          try clear p6
                          try clear q1
                          try clear q13
                          try clear q134
                          try clear q136
                          try clear q137
                          obtain ⟨kq, x11_45, rfl, HA, HJ45, HO_6, HO_12, HB⟩ := hcut
                          cases kq with
                          | zero => exact absurd HA.out (by simp [mootlaw5_GroupSums.j7])
                          | succ kj45 =>
                            have H := HA.out
                            clear HA
                            simp only [mootlaw5_GroupSums.j7] at H
                            by_cases c48 : x11_45 = 0
                            · rw [if_pos c48] at H
                              have c48b0 : (x11_45 == 0) = true := beq_iff_eq.mpr c48
                              have c48b1 : (x11_45 != 0) = false := bne_eq_false_iff_eq.mpr c48
                              clear c48
                              have H' := Aside0.mk H
                              clear H
                              go_wp2
                              go_loopg [18, 106] kj45 (fun kq v18 v106 w' => ∃ (x18_7 : Int) (x106_7 : Int), v18 = .int .i64 x18_7 ∧ v106 = .int .i64 x106_7 ∧ Aside0 (mootlaw5_GroupSums.l2 kq l1 x5_16 t119 t120 t123 t124 t125 x11_45 x12_18 x18_7 l1 (l1.length : Int) x106_7 = some r) ∧ Aside0 (kq ≤ kj45) ∧ Aside0 (Kd.R k50 50 w' w.heap.size (fun k_ => some k_ ≠ (u12 : Value).ownBlock) v121 t119) ∧ Aside0 (Kd.R k50 50 w' w.heap.size (fun k_ => some k_ ≠ (v121 : Value).ownBlock) u12 x12_18) ∧ Aside0 (Below w.heap.size w w'))
                              case atStart => exact ⟨(0), (0), (by first | rfl | (simp; done) | (simp [*]; done)), (by first | rfl | (simp; done) | (simp [*]; done)), H', ⟨Nat.le_refl _⟩, ⟨by (with_reducible repeat (first | apply Kd.R_alloc | apply Kd.R_drewN | apply Kd.R_drew)); exact HO_6.out⟩, ⟨by (with_reducible repeat (first | apply Kd.R_alloc | apply Kd.R_drewN | apply Kd.R_drew)); exact HO_12.out⟩, ⟨by repeat (first | (with_reducible first | exact HB.out | apply below_alloc | apply pw_below_drewN | apply below_drew1) | exact HB.out)⟩⟩
                              case round =>
                                clear H'
                                try clear c1
                                try clear p1
                                try clear q1
                                try clear hx1
                                try clear c2
                                try clear p2
                                try clear c3
                                try clear c4
                                try clear p6
                                try clear c8
                                try clear c10
                                try clear c12
                                try clear p13
                                try clear q13
                                try clear hx13
                                try clear c14
                                try clear c15
                                try clear c16
                                try clear c16b0
                                try clear c16b1
                                try clear c18
                                try clear c20
                                try clear c20b0
                                try clear c20b1
                                try clear c22
                                try clear c26
                                try clear c27
                                try clear c27b0
                                try clear c28
                                try clear c28b0
                                try clear c29
                                try clear c29b0
                                try clear c32
                                try clear c32b0
                                try clear c33
                                try clear c33b0
                                try clear c34
                                try clear c34b0
                                try clear c35
                                try clear c35b0
                                try clear c35b1
                                try clear c36
                                try clear c36b0
                                try clear c41
                                try clear c45
                                try clear c45b0
                                try clear c45b1
                                try clear c47
                                try clear c48
                                try clear c48b0
                                try clear c48b1
                                try clear hcz31_0
                                try clear hcz31_1
                                try clear hcz31_2
                                try clear hcz37_0
                                try clear hcz37_1
                                try clear hcz37_2
                                try clear hcz42_0
                                try clear hcz42_1
                                try clear hcz42_2
                                try clear hfz31_0
                                try clear hfz31_1
                                try clear hfz31_2
                                try clear hfz37_0
                                try clear hfz37_1
                                try clear hfz37_2
                                try clear hfz42_0
                                try clear hfz42_1
                                try clear hfz42_2
                                try clear hx134_0
                                try clear hx136_0
                                try clear hx137_0
                                try clear p1
                                try clear p13
                                try clear p134
                                try clear p136
                                try clear p137
                                try clear p2
                                try clear p6
                                try clear q1
                                try clear q13
                                try clear q134
                                try clear q136
                                try clear q137
                                obtain ⟨x18_7, x106_7, rfl, rfl, HA, HK7, HO_6, HO_12, HB⟩ := hrel
                                cases gk with
                                | zero => exact absurd HA.out (by simp [mootlaw5_GroupSums.l2])
                                | succ k7 =>
                                  have H := HA.out
                                  clear HA
                                  simp only [mootlaw5_GroupSums.l2] at H
                                  by_cases c49 : x106_7 < (l1.length : Int)
                                  · rw [if_pos c49] at H
                                    have c49b0 : decide (x106_7 < (l1.length : Int)) = true := decide_eq_true c49
                                    clear c49
                                    by_cases c50 : 0 ≤ x106_7
                                    · rw [if_pos c50] at H
                                      have c50b0 : decide (0 ≤ x106_7) = true := decide_eq_true c50
                                      clear c50
                                      by_cases c51 : x106_7 < (l1.length : Int)
                                      · rw [if_pos c51] at H
                                        have c51b0 : decide (x106_7 < (l1.length : Int)) = true := decide_eq_true c51
                                        clear c51
                                        have H' := Aside0.mk H
                                        clear H
                                        have p141 : 0 ≤ (x106_7 : Int) := of_decide_eq_true (by first | (with_reducible assumption) | assumption)
                                        have q141 : x106_7 < (l1.length : Int) := of_decide_eq_true (by first | (with_reducible assumption) | assumption)
                                        obtain ⟨ad141, e141, hx141_0⟩ := Kd.at_int HR1.out x106_7 p141 q141
                                        cases e141
                                        (try replace hx141_0 := (HB.out.cell (World.block_lt_of_cell? w _ hx141_0)).trans hx141_0)
                                        replace p141 := eq_true p141
                                        replace q141 := eq_true q141
                                        go_wp2
                                        go_roundg k7
                                        case measure => have := HJ5.out; have := HJ14.out; have := HJ16.out; have := HJ18.out; have := HJ43.out; have := HJ45.out; have := HK7.out; omega
                                        case rel => exact ⟨(wrap64 (x18_7 + (rd l1 x106_7))), (wrap64 (x106_7 + 1)), (by first | rfl | (simp; done) | (simp [*]; done)), (by first | rfl | (simp; done) | (simp [*]; done)), H', ⟨by have := HJ5.out; have := HJ14.out; have := HJ16.out; have := HJ18.out; have := HJ43.out; have := HJ45.out; have := HK7.out; omega⟩, ⟨by (with_reducible repeat (first | apply Kd.R_alloc | apply Kd.R_drewN | apply Kd.R_drew)); exact HO_6.out⟩, ⟨by (with_reducible repeat (first | apply Kd.R_alloc | apply Kd.R_drewN | apply Kd.R_drew)); exact HO_12.out⟩, ⟨by repeat (first | (with_reducible first | exact HB.out | apply below_alloc | apply pw_below_drewN | apply below_drew1) | exact HB.out)⟩⟩
                                      · rw [if_neg c51] at H
                                        exact absurd H (by simp)
                                    · rw [if_neg c50] at H
                                      exact absurd H (by simp)
                                  · rw [if_neg c49] at H
                                    have c49b0 : decide (x106_7 < (l1.length : Int)) = false := decide_eq_false c49
                                    clear c49
                                    replace H := Option.bind_eq_some_iff.mp H
                                    obtain ⟨⟨t142, t143⟩, A520, H⟩ := H
                                    replace H : (if t120 = x5_16 then ((group_Group.f k7 t119 x12_18).bind fun t144 => (if t144 = true then (if t125 = x11_45 then (if t123 = t142 then (some (t124 == t143)) else (some false)) else (some false)) else (some false))) else (some false)) = some r := H
                                    have A52 := Aside0.mk A520
                                    clear A520
                                    by_cases c53 : t120 = x5_16
                                    · rw [if_pos c53] at H
                                      have c53b0 : (t120 == x5_16) = true := beq_iff_eq.mpr c53
                                      have c53b1 : (t120 != x5_16) = false := bne_eq_false_iff_eq.mpr c53
                                      clear c53
                                      replace H := Option.bind_eq_some_iff.mp H
                                      obtain ⟨t144, A540, H⟩ := H
                                      replace H : (if t144 = true then (if t125 = x11_45 then (if t123 = t142 then (some (t124 == t143)) else (some false)) else (some false)) else (some false)) = some r := H
                                      have A54 := Aside0.mk A540
                                      clear A540
                                      by_cases c55 : t144 = true
                                      · subst c55
                                        have H1 : (if t125 = x11_45 then (if t123 = t142 then (some (t124 == t143)) else (some false)) else (some false)) = some r := by rw [if_pos rfl] at H; exact H
                                        clear H
                                        have H := H1
                                        clear H1
                                        by_cases c56 : t125 = x11_45
                                        · rw [if_pos c56] at H
                                          have c56b0 : (t125 == x11_45) = true := beq_iff_eq.mpr c56
                                          have c56b1 : (t125 != x11_45) = false := bne_eq_false_iff_eq.mpr c56
                                          clear c56
                                          by_cases c57 : t123 = t142
                                          · rw [if_pos c57] at H
                                            have c57b0 : (t123 == t142) = true := beq_iff_eq.mpr c57
                                            have c57b1 : (t123 != t142) = false := bne_eq_false_iff_eq.mpr c57
                                            clear c57
                                            obtain rfl := Option.some.inj H
                                            go_wp2_with (first | ((with_reducible refine gate_callee (f := 11) rfl ?_); refine goesL_ (some 118) rfl rfl Try.func11 (by kernel_rfl) rfl #[.int .i64 x18_7, .int .i64 (l1.length : Int)] rfl (by (try simp only [List.map_toArray, List.map_cons, List.map_nil]); first | done | rfl | (simp only [List.length_drop, List.length_take]; rfl)) ?_; (with_reducible refine (mootref5_Lowest.calls k7 x18_7 (l1.length : Int) t142 t143 _ A52.out).mono ?_); rintro e w58 ⟨rfl, hb⟩; refine ⟨_, rfl, ?_⟩; have n0_ := Aside0.mk (Kd.R_below (by (with_reducible repeat (first | apply Kd.R_alloc | apply Kd.R_drewN | apply Kd.R_drew)); exact HO_6.out) hb); have n1_ := Aside0.mk (Kd.R_below (by (with_reducible repeat (first | apply Kd.R_alloc | apply Kd.R_drewN | apply Kd.R_drew)); exact HO_12.out) hb); have n2_ := Aside0.mk (below_step (by repeat (first | (with_reducible first | exact HB.out | apply below_alloc | apply pw_below_drewN | apply below_drew1) | exact HB.out)) hb); clear HO_6; clear HO_12; clear HB; have HO_6 := n0_; have HO_12 := n1_; have HB := n2_; clear n0_ n1_ n2_; (try clear hb); (try clear hb2); (try clear hk); (try clear hi); obtain ⟨Ao59, co59, eo59⟩ := Kd.R_slice HO_6.out; subst eo59; obtain ⟨Ao60, co60, eo60⟩ := Kd.R_slice HO_12.out; subst eo60) | (go_at_call 29; (with_reducible refine (group_Group.calls k7 _ _ t119 _ _ x12_18 true _ ?side1 ?side2 ?side3 ?side4 A54.out).mono ?_); (case side1 => repeat (first | exact (Kd.R_reads' HO_6.out).2.2 | (with_reducible refine Kd.C_alloc ?_ _) | (with_reducible refine Kd.C_drewN ?_ _) | (with_reducible refine Kd.C_drew ?_))); (case side2 => exact (Kd.R_reads' HO_6.out).2.1); (case side3 => repeat (first | exact (Kd.R_reads' HO_12.out).2.2 | (with_reducible refine Kd.C_alloc ?_ _) | (with_reducible refine Kd.C_drewN ?_ _) | (with_reducible refine Kd.C_drew ?_))); (case side4 => exact (Kd.R_reads' HO_12.out).2.1); rintro e w' ⟨rfl, ⟨nd, rfl⟩⟩))
                                            go_ret
                                            exact ⟨by first | rfl | (simp [errW_none, errW_some] <;> rfl) | (simp [*, errW_none, errW_some] <;> rfl), by repeat (first | (with_reducible first | exact HB.out | apply below_alloc | apply pw_below_drewN | apply below_drew1) | exact HB.out)⟩
                                          · rw [if_neg c57] at H
                                            have c57b0 : (t123 == t142) = false := beq_eq_false_iff_ne.mpr c57
                                            have c57b1 : (t123 != t142) = true := bne_iff_ne.mpr c57
                                            obtain rfl := Option.some.inj H
                                            go_wp2_with (first | ((with_reducible refine gate_callee (f := 11) rfl ?_); refine goesL_ (some 118) rfl rfl Try.func11 (by kernel_rfl) rfl #[.int .i64 x18_7, .int .i64 (l1.length : Int)] rfl (by (try simp only [List.map_toArray, List.map_cons, List.map_nil]); first | done | rfl | (simp only [List.length_drop, List.length_take]; rfl)) ?_; (with_reducible refine (mootref5_Lowest.calls k7 x18_7 (l1.length : Int) t142 t143 _ A52.out).mono ?_); rintro e w61 ⟨rfl, hb⟩; refine ⟨_, rfl, ?_⟩; have n0_ := Aside0.mk (Kd.R_below (by (with_reducible repeat (first | apply Kd.R_alloc | apply Kd.R_drewN | apply Kd.R_drew)); exact HO_6.out) hb); have n1_ := Aside0.mk (Kd.R_below (by (with_reducible repeat (first | apply Kd.R_alloc | apply Kd.R_drewN | apply Kd.R_drew)); exact HO_12.out) hb); have n2_ := Aside0.mk (below_step (by repeat (first | (with_reducible first | exact HB.out | apply below_alloc | apply pw_below_drewN | apply below_drew1) | exact HB.out)) hb); clear HO_6; clear HO_12; clear HB; have HO_6 := n0_; have HO_12 := n1_; have HB := n2_; clear n0_ n1_ n2_; (try clear hb); (try clear hb2); (try clear hk); (try clear hi); obtain ⟨Ao62, co62, eo62⟩ := Kd.R_slice HO_6.out; subst eo62; obtain ⟨Ao63, co63, eo63⟩ := Kd.R_slice HO_12.out; subst eo63) | (go_at_call 29; (with_reducible refine (group_Group.calls k7 _ _ t119 _ _ x12_18 true _ ?side1 ?side2 ?side3 ?side4 A54.out).mono ?_); (case side1 => repeat (first | exact (Kd.R_reads' HO_6.out).2.2 | (with_reducible refine Kd.C_alloc ?_ _) | (with_reducible refine Kd.C_drewN ?_ _) | (with_reducible refine Kd.C_drew ?_))); (case side2 => exact (Kd.R_reads' HO_6.out).2.1); (case side3 => repeat (first | exact (Kd.R_reads' HO_12.out).2.2 | (with_reducible refine Kd.C_alloc ?_ _) | (with_reducible refine Kd.C_drewN ?_ _) | (with_reducible refine Kd.C_drew ?_))); (case side4 => exact (Kd.R_reads' HO_12.out).2.1); rintro e w' ⟨rfl, ⟨nd, rfl⟩⟩))
                                            go_ret
                                            exact ⟨by first | rfl | (simp [errW_none, errW_some] <;> rfl) | (simp [*, errW_none, errW_some] <;> rfl), by repeat (first | (with_reducible first | exact HB.out | apply below_alloc | apply pw_below_drewN | apply below_drew1) | exact HB.out)⟩
                                        · rw [if_neg c56] at H
                                          have c56b0 : (t125 == x11_45) = false := beq_eq_false_iff_ne.mpr c56
                                          have c56b1 : (t125 != x11_45) = true := bne_iff_ne.mpr c56
                                          obtain rfl := Option.some.inj H
                                          go_wp2_with (first | ((with_reducible refine gate_callee (f := 11) rfl ?_); refine goesL_ (some 118) rfl rfl Try.func11 (by kernel_rfl) rfl #[.int .i64 x18_7, .int .i64 (l1.length : Int)] rfl (by (try simp only [List.map_toArray, List.map_cons, List.map_nil]); first | done | rfl | (simp only [List.length_drop, List.length_take]; rfl)) ?_; (with_reducible refine (mootref5_Lowest.calls k7 x18_7 (l1.length : Int) t142 t143 _ A52.out).mono ?_); rintro e w64 ⟨rfl, hb⟩; refine ⟨_, rfl, ?_⟩; have n0_ := Aside0.mk (Kd.R_below (by (with_reducible repeat (first | apply Kd.R_alloc | apply Kd.R_drewN | apply Kd.R_drew)); exact HO_6.out) hb); have n1_ := Aside0.mk (Kd.R_below (by (with_reducible repeat (first | apply Kd.R_alloc | apply Kd.R_drewN | apply Kd.R_drew)); exact HO_12.out) hb); have n2_ := Aside0.mk (below_step (by repeat (first | (with_reducible first | exact HB.out | apply below_alloc | apply pw_below_drewN | apply below_drew1) | exact HB.out)) hb); clear HO_6; clear HO_12; clear HB; have HO_6 := n0_; have HO_12 := n1_; have HB := n2_; clear n0_ n1_ n2_; (try clear hb); (try clear hb2); (try clear hk); (try clear hi); obtain ⟨Ao65, co65, eo65⟩ := Kd.R_slice HO_6.out; subst eo65; obtain ⟨Ao66, co66, eo66⟩ := Kd.R_slice HO_12.out; subst eo66) | (go_at_call 29; (with_reducible refine (group_Group.calls k7 _ _ t119 _ _ x12_18 true _ ?side1 ?side2 ?side3 ?side4 A54.out).mono ?_); (case side1 => repeat (first | exact (Kd.R_reads' HO_6.out).2.2 | (with_reducible refine Kd.C_alloc ?_ _) | (with_reducible refine Kd.C_drewN ?_ _) | (with_reducible refine Kd.C_drew ?_))); (case side2 => exact (Kd.R_reads' HO_6.out).2.1); (case side3 => repeat (first | exact (Kd.R_reads' HO_12.out).2.2 | (with_reducible refine Kd.C_alloc ?_ _) | (with_reducible refine Kd.C_drewN ?_ _) | (with_reducible refine Kd.C_drew ?_))); (case side4 => exact (Kd.R_reads' HO_12.out).2.1); rintro e w' ⟨rfl, ⟨nd, rfl⟩⟩))
                                          go_ret
                                          exact ⟨by first | rfl | (simp [errW_none, errW_some] <;> rfl) | (simp [*, errW_none, errW_some] <;> rfl), by repeat (first | (with_reducible first | exact HB.out | apply below_alloc | apply pw_below_drewN | apply below_drew1) | exact HB.out)⟩
                                      · replace c55 := Bool.eq_false_iff.mpr c55
                                        subst c55
                                        have H1 : (some false) = some r := by rw [if_neg (show ¬ (false = true) by decide)] at H; exact H
                                        clear H
                                        have H := H1
                                        clear H1
                                        obtain rfl := Option.some.inj H
                                        go_wp2_with (first | ((with_reducible refine gate_callee (f := 11) rfl ?_); refine goesL_ (some 118) rfl rfl Try.func11 (by kernel_rfl) rfl #[.int .i64 x18_7, .int .i64 (l1.length : Int)] rfl (by (try simp only [List.map_toArray, List.map_cons, List.map_nil]); first | done | rfl | (simp only [List.length_drop, List.length_take]; rfl)) ?_; (with_reducible refine (mootref5_Lowest.calls k7 x18_7 (l1.length : Int) t142 t143 _ A52.out).mono ?_); rintro e w67 ⟨rfl, hb⟩; refine ⟨_, rfl, ?_⟩; have n0_ := Aside0.mk (Kd.R_below (by (with_reducible repeat (first | apply Kd.R_alloc | apply Kd.R_drewN | apply Kd.R_drew)); exact HO_6.out) hb); have n1_ := Aside0.mk (Kd.R_below (by (with_reducible repeat (first | apply Kd.R_alloc | apply Kd.R_drewN | apply Kd.R_drew)); exact HO_12.out) hb); have n2_ := Aside0.mk (below_step (by repeat (first | (with_reducible first | exact HB.out | apply below_alloc | apply pw_below_drewN | apply below_drew1) | exact HB.out)) hb); clear HO_6; clear HO_12; clear HB; have HO_6 := n0_; have HO_12 := n1_; have HB := n2_; clear n0_ n1_ n2_; (try clear hb); (try clear hb2); (try clear hk); (try clear hi); obtain ⟨Ao68, co68, eo68⟩ := Kd.R_slice HO_6.out; subst eo68; obtain ⟨Ao69, co69, eo69⟩ := Kd.R_slice HO_12.out; subst eo69) | (go_at_call 29; (with_reducible refine (group_Group.calls k7 _ _ t119 _ _ x12_18 false _ ?side1 ?side2 ?side3 ?side4 A54.out).mono ?_); (case side1 => repeat (first | exact (Kd.R_reads' HO_6.out).2.2 | (with_reducible refine Kd.C_alloc ?_ _) | (with_reducible refine Kd.C_drewN ?_ _) | (with_reducible refine Kd.C_drew ?_))); (case side2 => exact (Kd.R_reads' HO_6.out).2.1); (case side3 => repeat (first | exact (Kd.R_reads' HO_12.out).2.2 | (with_reducible refine Kd.C_alloc ?_ _) | (with_reducible refine Kd.C_drewN ?_ _) | (with_reducible refine Kd.C_drew ?_))); (case side4 => exact (Kd.R_reads' HO_12.out).2.1); rintro e w' ⟨rfl, ⟨nd, rfl⟩⟩))
                                        go_ret
                                        exact ⟨by first | rfl | (simp [errW_none, errW_some] <;> rfl) | (simp [*, errW_none, errW_some] <;> rfl), by repeat (first | (with_reducible first | exact HB.out | apply below_alloc | apply pw_below_drewN | apply below_drew1) | exact HB.out)⟩
                                    · rw [if_neg c53] at H
                                      have c53b0 : (t120 == x5_16) = false := beq_eq_false_iff_ne.mpr c53
                                      have c53b1 : (t120 != x5_16) = true := bne_iff_ne.mpr c53
                                      obtain rfl := Option.some.inj H
                                      go_wp2_with (first | ((with_reducible refine gate_callee (f := 11) rfl ?_); refine goesL_ (some 118) rfl rfl Try.func11 (by kernel_rfl) rfl #[.int .i64 x18_7, .int .i64 (l1.length : Int)] rfl (by (try simp only [List.map_toArray, List.map_cons, List.map_nil]); first | done | rfl | (simp only [List.length_drop, List.length_take]; rfl)) ?_; (with_reducible refine (mootref5_Lowest.calls k7 x18_7 (l1.length : Int) t142 t143 _ A52.out).mono ?_); rintro e w70 ⟨rfl, hb⟩; refine ⟨_, rfl, ?_⟩; have n0_ := Aside0.mk (Kd.R_below (by (with_reducible repeat (first | apply Kd.R_alloc | apply Kd.R_drewN | apply Kd.R_drew)); exact HO_6.out) hb); have n1_ := Aside0.mk (Kd.R_below (by (with_reducible repeat (first | apply Kd.R_alloc | apply Kd.R_drewN | apply Kd.R_drew)); exact HO_12.out) hb); have n2_ := Aside0.mk (below_step (by repeat (first | (with_reducible first | exact HB.out | apply below_alloc | apply pw_below_drewN | apply below_drew1) | exact HB.out)) hb); clear HO_6; clear HO_12; clear HB; have HO_6 := n0_; have HO_12 := n1_; have HB := n2_; clear n0_ n1_ n2_; (try clear hb); (try clear hb2); (try clear hk); (try clear hi)))
                                      go_ret
                                      exact ⟨by first | rfl | (simp [errW_none, errW_some] <;> rfl) | (simp [*, errW_none, errW_some] <;> rfl), by repeat (first | (with_reducible first | exact HB.out | apply below_alloc | apply pw_below_drewN | apply below_drew1) | exact HB.out)⟩
                            · rw [if_neg c48] at H
                              have c48b0 : (x11_45 == 0) = false := beq_eq_false_iff_ne.mpr c48
                              have c48b1 : (x11_45 != 0) = true := bne_iff_ne.mpr c48
                              by_cases c71 : t120 = x5_16
                              · rw [if_pos c71] at H
                                have c71b0 : (t120 == x5_16) = true := beq_iff_eq.mpr c71
                                have c71b1 : (t120 != x5_16) = false := bne_eq_false_iff_eq.mpr c71
                                clear c71
                                replace H := Option.bind_eq_some_iff.mp H
                                obtain ⟨t145, A720, H⟩ := H
                                replace H : (if t145 = true then (if t125 = x11_45 then (if t123 = 0 then (some (t124 == 0)) else (some false)) else (some false)) else (some false)) = some r := H
                                have A72 := Aside0.mk A720
                                clear A720
                                by_cases c73 : t145 = true
                                · subst c73
                                  have H1 : (if t125 = x11_45 then (if t123 = 0 then (some (t124 == 0)) else (some false)) else (some false)) = some r := by rw [if_pos rfl] at H; exact H
                                  clear H
                                  have H := H1
                                  clear H1
                                  by_cases c74 : t125 = x11_45
                                  · rw [if_pos c74] at H
                                    have c74b0 : (t125 == x11_45) = true := beq_iff_eq.mpr c74
                                    have c74b1 : (t125 != x11_45) = false := bne_eq_false_iff_eq.mpr c74
                                    clear c74
                                    by_cases c75 : t123 = 0
                                    · rw [if_pos c75] at H
                                      have c75b0 : (t123 == 0) = true := beq_iff_eq.mpr c75
                                      have c75b1 : (t123 != 0) = false := bne_eq_false_iff_eq.mpr c75
                                      clear c75
                                      obtain rfl := Option.some.inj H
                                      obtain ⟨Ao76, co76, eo76⟩ := Kd.R_slice HO_6.out
                                      subst eo76
                                      obtain ⟨Ao77, co77, eo77⟩ := Kd.R_slice HO_12.out
                                      subst eo77
                                      go_wp2_with (first | (go_at_call 29; (with_reducible refine (group_Group.calls kj45 _ _ t119 _ _ x12_18 true _ ?side1 ?side2 ?side3 ?side4 A72.out).mono ?_); (case side1 => repeat (first | exact (Kd.R_reads' HO_6.out).2.2 | (with_reducible refine Kd.C_alloc ?_ _) | (with_reducible refine Kd.C_drewN ?_ _) | (with_reducible refine Kd.C_drew ?_))); (case side2 => exact (Kd.R_reads' HO_6.out).2.1); (case side3 => repeat (first | exact (Kd.R_reads' HO_12.out).2.2 | (with_reducible refine Kd.C_alloc ?_ _) | (with_reducible refine Kd.C_drewN ?_ _) | (with_reducible refine Kd.C_drew ?_))); (case side4 => exact (Kd.R_reads' HO_12.out).2.1); rintro e w' ⟨rfl, ⟨nd, rfl⟩⟩))
                                      go_ret
                                      exact ⟨by first | rfl | (simp [errW_none, errW_some] <;> rfl) | (simp [*, errW_none, errW_some] <;> rfl), by repeat (first | (with_reducible first | exact HB.out | apply below_alloc | apply pw_below_drewN | apply below_drew1) | exact HB.out)⟩
                                    · rw [if_neg c75] at H
                                      have c75b0 : (t123 == 0) = false := beq_eq_false_iff_ne.mpr c75
                                      have c75b1 : (t123 != 0) = true := bne_iff_ne.mpr c75
                                      obtain rfl := Option.some.inj H
                                      obtain ⟨Ao78, co78, eo78⟩ := Kd.R_slice HO_6.out
                                      subst eo78
                                      obtain ⟨Ao79, co79, eo79⟩ := Kd.R_slice HO_12.out
                                      subst eo79
                                      go_wp2_with (first | (go_at_call 29; (with_reducible refine (group_Group.calls kj45 _ _ t119 _ _ x12_18 true _ ?side1 ?side2 ?side3 ?side4 A72.out).mono ?_); (case side1 => repeat (first | exact (Kd.R_reads' HO_6.out).2.2 | (with_reducible refine Kd.C_alloc ?_ _) | (with_reducible refine Kd.C_drewN ?_ _) | (with_reducible refine Kd.C_drew ?_))); (case side2 => exact (Kd.R_reads' HO_6.out).2.1); (case side3 => repeat (first | exact (Kd.R_reads' HO_12.out).2.2 | (with_reducible refine Kd.C_alloc ?_ _) | (with_reducible refine Kd.C_drewN ?_ _) | (with_reducible refine Kd.C_drew ?_))); (case side4 => exact (Kd.R_reads' HO_12.out).2.1); rintro e w' ⟨rfl, ⟨nd, rfl⟩⟩))
                                      go_ret
                                      exact ⟨by first | rfl | (simp [errW_none, errW_some] <;> rfl) | (simp [*, errW_none, errW_some] <;> rfl), by repeat (first | (with_reducible first | exact HB.out | apply below_alloc | apply pw_below_drewN | apply below_drew1) | exact HB.out)⟩
                                  · rw [if_neg c74] at H
                                    have c74b0 : (t125 == x11_45) = false := beq_eq_false_iff_ne.mpr c74
                                    have c74b1 : (t125 != x11_45) = true := bne_iff_ne.mpr c74
                                    obtain rfl := Option.some.inj H
                                    obtain ⟨Ao80, co80, eo80⟩ := Kd.R_slice HO_6.out
                                    subst eo80
                                    obtain ⟨Ao81, co81, eo81⟩ := Kd.R_slice HO_12.out
                                    subst eo81
                                    go_wp2_with (first | (go_at_call 29; (with_reducible refine (group_Group.calls kj45 _ _ t119 _ _ x12_18 true _ ?side1 ?side2 ?side3 ?side4 A72.out).mono ?_); (case side1 => repeat (first | exact (Kd.R_reads' HO_6.out).2.2 | (with_reducible refine Kd.C_alloc ?_ _) | (with_reducible refine Kd.C_drewN ?_ _) | (with_reducible refine Kd.C_drew ?_))); (case side2 => exact (Kd.R_reads' HO_6.out).2.1); (case side3 => repeat (first | exact (Kd.R_reads' HO_12.out).2.2 | (with_reducible refine Kd.C_alloc ?_ _) | (with_reducible refine Kd.C_drewN ?_ _) | (with_reducible refine Kd.C_drew ?_))); (case side4 => exact (Kd.R_reads' HO_12.out).2.1); rintro e w' ⟨rfl, ⟨nd, rfl⟩⟩))
                                    go_ret
                                    exact ⟨by first | rfl | (simp [errW_none, errW_some] <;> rfl) | (simp [*, errW_none, errW_some] <;> rfl), by repeat (first | (with_reducible first | exact HB.out | apply below_alloc | apply pw_below_drewN | apply below_drew1) | exact HB.out)⟩
                                · replace c73 := Bool.eq_false_iff.mpr c73
                                  subst c73
                                  have H1 : (some false) = some r := by rw [if_neg (show ¬ (false = true) by decide)] at H; exact H
                                  clear H
                                  have H := H1
                                  clear H1
                                  obtain rfl := Option.some.inj H
                                  obtain ⟨Ao82, co82, eo82⟩ := Kd.R_slice HO_6.out
                                  subst eo82
                                  obtain ⟨Ao83, co83, eo83⟩ := Kd.R_slice HO_12.out
                                  subst eo83
                                  go_wp2_with (first | (go_at_call 29; (with_reducible refine (group_Group.calls kj45 _ _ t119 _ _ x12_18 false _ ?side1 ?side2 ?side3 ?side4 A72.out).mono ?_); (case side1 => repeat (first | exact (Kd.R_reads' HO_6.out).2.2 | (with_reducible refine Kd.C_alloc ?_ _) | (with_reducible refine Kd.C_drewN ?_ _) | (with_reducible refine Kd.C_drew ?_))); (case side2 => exact (Kd.R_reads' HO_6.out).2.1); (case side3 => repeat (first | exact (Kd.R_reads' HO_12.out).2.2 | (with_reducible refine Kd.C_alloc ?_ _) | (with_reducible refine Kd.C_drewN ?_ _) | (with_reducible refine Kd.C_drew ?_))); (case side4 => exact (Kd.R_reads' HO_12.out).2.1); rintro e w' ⟨rfl, ⟨nd, rfl⟩⟩))
                                  go_ret
                                  exact ⟨by first | rfl | (simp [errW_none, errW_some] <;> rfl) | (simp [*, errW_none, errW_some] <;> rfl), by repeat (first | (with_reducible first | exact HB.out | apply below_alloc | apply pw_below_drewN | apply below_drew1) | exact HB.out)⟩
                              · rw [if_neg c71] at H
                                have c71b0 : (t120 == x5_16) = false := beq_eq_false_iff_ne.mpr c71
                                have c71b1 : (t120 != x5_16) = true := bne_iff_ne.mpr c71
                                obtain rfl := Option.some.inj H
                                go_wp2
                                go_ret
                                exact ⟨by first | rfl | (simp [errW_none, errW_some] <;> rfl) | (simp [*, errW_none, errW_some] <;> rfl), by repeat (first | (with_reducible first | exact HB.out | apply below_alloc | apply pw_below_drewN | apply below_drew1) | exact HB.out)⟩

/-- THE ONE PURE STATEMENT of mootlaw5_GroupSums: yours. -/
def mootlaw5_GroupSums.Pure : Prop := ∀ (l0 : List Int) (l1 : List Int), l0.length ≤ maxLen → l0.length * 8 ≤ 140737488351232 → (∀ x ∈ l0, (Lit.int .i64 x).wf = true) → l1.length ≤ maxLen → l1.length * 8 ≤ 140737488351232 → (∀ x ∈ l1, (Lit.int .i64 x).wf = true) → ∃ k, mootlaw5_GroupSums.f k l0 l1 = some true
theorem mootlaw5_GroupSums.walk (P : mootlaw5_GroupSums.Pure) (a0 : Option Addr) (len0 cap0 : Nat) (z0 : List Int) (a1 : Option Addr) (len1 cap1 : Nat) (z1 : List Int) (w : World) (w0 : (a0 = none ∧ len0 = 0 ∧ cap0 = 0 ∧ z0 = []) ∨ ∃ x, a0 = some x ∧ len0 ≤ cap0 ∧ cap0 ≤ maxLen ∧ z0.length = cap0 ∧ (∀ i, i < z0.length → w.cell? (x.add i) = some (.int .i64 (z0.getD i 0))) ∧ ∀ n ∈ z0, (Lit.int .i64 n).wf = true) (y0 : len0 * 8 ≤ 140737488351232) (w1 : (a1 = none ∧ len1 = 0 ∧ cap1 = 0 ∧ z1 = []) ∨ ∃ x, a1 = some x ∧ len1 ≤ cap1 ∧ cap1 ≤ maxLen ∧ z1.length = cap1 ∧ (∀ i, i < z1.length → w.cell? (x.add i) = some (.int .i64 (z1.getD i 0))) ∧ ∀ n ∈ z1, (Lit.int .i64 n).wf = true) (y1 : len1 * 8 ≤ 140737488351232) :
    Calls Try.prog 8 #[.slice a0 len0 cap0, .slice a1 len1 cap1] w fun e w' => e = .returned (.bool true) ∧ Below w.heap.size w w' := by
  obtain ⟨l0, rfl, hr0, hm0, hw0, hc0⟩ := ReadsInt.ofRowC w0
  obtain ⟨l1, rfl, hr1, hm1, hw1, hc1⟩ := ReadsInt.ofRowC w1
  obtain ⟨k, h⟩ := P l0 l1 hm0 y0 hw0 hm1 y1 hw1
  refine (mootlaw5_GroupSums.calls k _ _ l0 _ _ l1 true w (Kd.C_of_reads (d := (0 : Int)) (h1 := fun _ => rfl) hr0) hc0 (Kd.C_of_reads (d := (0 : Int)) (h1 := fun _ => rfl) hr1) hc1 h).mono ?_
  rintro e w' ⟨rfl, hd⟩
  exact ⟨rfl, hd⟩

end Go.Proofs.Ytihmanjgkjenbaa.PGroupSums
