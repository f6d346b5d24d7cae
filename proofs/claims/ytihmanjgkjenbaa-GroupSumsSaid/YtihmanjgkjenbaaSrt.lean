import Derived.Shelf.SlSortCmp.WholeK
import Derived.Shelf.SlSortCmp.NoneTotal
import Derived.Test.YtihmanjgkjenbaaBy
namespace Go.Proofs.Ytihmanjgkjenbaa.By
set_option linter.unusedVariables false
set_option linter.unusedSimpArgs false
open Go.RowKit Go.Shelf Go.Lib Go.Sort
set_option maxRecDepth 100000
def sortG_ren : Go.Shelf.Ren := ⟨fun | 6 => 35 | 15 => 40 | 14 => 43 | 28 => 54 | 29 => 55 | 20 => 56 | 21 => 57 | 22 => 58 | 23 => 59 | 24 => 60 | 25 => 61 | 26 => 62 | 27 => 63 | 46 => 69 | 47 => 65 | 48 => 66 | 49 => 70 | 50 => 71 | 57 => 73 | n => n, fun | 22 => 46 | 24 => 50 | 25 => 61 | 3 => 3 | 39 => 55 | 0 => 0 | 53 => 65 | 55 => 68 | 4 => 4 | 46 => 74 | 45 => 73 | 50 => 78 | 5 => 5 | 9 => 9 | 66 => 87 | 70 => 91 | 76 => 95 | 77 => 27 | n => n, fun | n => n⟩
theorem sortG : Go.Proofs.SlLaysF0.n6 Try.prog sortG_ren := {
  mixed := by kernel_rfl
  f6 := ⟨Try.f35.name, by kernel_rfl, Try.func35.trans (congrArg some (by kernel_rfl))⟩
  f14 := ⟨Try.f43.name, by kernel_rfl, Try.func43.trans (congrArg some (by kernel_rfl))⟩
  f15 := Try.func40.trans (congrArg some (by kernel_rfl))
  f20 := ⟨Try.f56.name, by kernel_rfl, Try.func56.trans (congrArg some (by kernel_rfl))⟩
  f21 := ⟨Try.f57.name, by kernel_rfl, Try.func57.trans (congrArg some (by kernel_rfl))⟩
  f22 := ⟨Try.f58.name, by kernel_rfl, Try.func58.trans (congrArg some (by kernel_rfl))⟩
  f23 := ⟨Try.f59.name, by kernel_rfl, Try.func59.trans (congrArg some (by kernel_rfl))⟩
  f24 := ⟨Try.f60.name, by kernel_rfl, Try.func60.trans (congrArg some (by kernel_rfl))⟩
  f25 := ⟨Try.f61.name, by kernel_rfl, Try.func61.trans (congrArg some (by kernel_rfl))⟩
  f26 := ⟨Try.f62.name, by kernel_rfl, Try.func62.trans (congrArg some (by kernel_rfl))⟩
  f27 := ⟨Try.f63.name, by kernel_rfl, Try.func63.trans (congrArg some (by kernel_rfl))⟩
  f28 := Try.func54.trans (congrArg some (by kernel_rfl))
  f29 := Try.func55.trans (congrArg some (by kernel_rfl))
  f46 := ⟨Try.f69.name, by kernel_rfl, Try.func69.trans (congrArg some (by kernel_rfl))⟩
  f47 := Try.func65.trans (congrArg some (by kernel_rfl))
  f48 := Try.func66.trans (congrArg some (by kernel_rfl))
  f49 := ⟨Try.f70.name, by kernel_rfl, Try.func70.trans (congrArg some (by kernel_rfl))⟩
  f50 := ⟨Try.f71.name, by kernel_rfl, Try.func71.trans (congrArg some (by kernel_rfl))⟩
  f57 := ⟨Try.f73.name, by kernel_rfl, Try.func73.trans (congrArg some (by kernel_rfl))⟩
  t0 := Try.underlying0
  a0 := Try.isAgg0
  z0 := Try.sizeOf0
  v0 := Try.zeroValue0
  t3 := Try.underlying3
  a3 := Try.isAgg3
  z3 := Try.sizeOf3
  v3 := Try.zeroValue3
  t4 := Try.underlying4
  a4 := Try.isAgg4
  z4 := Try.sizeOf4
  v4 := Try.zeroValue4
  t5 := Try.underlying5
  a5 := Try.isAgg5
  z5 := Try.sizeOf5
  v5 := Try.zeroValue5
  t9 := Try.underlying9
  a9 := Try.isAgg9
  z9 := Try.sizeOf9
  v9 := Try.zeroValue9
  t22 := Try.underlying46
  a22 := Try.isAgg46
  z22 := Try.sizeOf46
  v22 := Try.zeroValue46
  t25 := Try.underlying61
  a25 := Try.isAgg61
  z25 := Try.sizeOf61
  v25 := Try.zeroValue61
  t39 := Try.underlying55
  a39 := Try.isAgg55
  z39 := Try.sizeOf55
  v39 := Try.zeroValue55
  t45 := Try.underlying73
  a45 := Try.isAgg73
  z45 := Try.sizeOf73
  v45 := Try.zeroValue73
  t46 := Try.underlying74
  a46 := Try.isAgg74
  z46 := Try.sizeOf74
  v46 := Try.zeroValue74
  t50 := Try.underlying78
  a50 := Try.isAgg78
  z50 := Try.sizeOf78
  v50 := Try.zeroValue78
  t53 := Try.underlying65
  a53 := Try.isAgg65
  z53 := Try.sizeOf65
  v53 := Try.zeroValue65
  t55 := Try.underlying68
  a55 := Try.isAgg68
  z55 := Try.sizeOf68
  v55 := Try.zeroValue68
  t66 := Try.underlying87
  a66 := Try.isAgg87
  z66 := Try.sizeOf87
  v66 := Try.zeroValue87
  t70 := Try.underlying91
  a70 := Try.isAgg91
  z70 := Try.sizeOf91
  v70 := Try.zeroValue91
  t76 := Try.underlying95
  a76 := Try.isAgg95
  z76 := Try.sizeOf95
  v76 := Try.zeroValue95
  t77 := Try.underlying27
  a77 := Try.isAgg27
  z77 := Try.sizeOf27
  v77 := Try.zeroValue27 }

theorem flatK_toList (l : List (Int × Int × Int)) : Go.Sort.flatK encG 3 l.toArray = (l.flatMap encG).toArray := by
  have key : ∀ (l : List (Int × Int × Int)) (t : Nat), t < l.length * 3 → (l.flatMap encG)[t]? = some ((encG l.toArray[t / 3]!)[t % 3]!) := fun l => by
    induction l with
    | nil => intro t h; simp at h
    | cons x r ih =>
      intro t h
      have h' : t < (r.length + 1) * 3 := h
      rw [List.flatMap_cons]
      by_cases c : t < 3
      · have e : t = 0 ∨ t = 1 ∨ t = 2 := by omega
        rcases e with rfl | rfl | rfl <;> simp [encG]
      · have hx : (encG x).length = 3 := rfl
        rw [List.getElem?_append_right (by rw [hx]; omega), hx, ih (t - 3) (by omega)]
        have e1 : t / 3 = (t - 3) / 3 + 1 := by omega
        have e2 : t % 3 = (t - 3) % 3 := by omega
        rw [e1, e2]
        simp
  apply Array.ext'
  apply List.ext_getElem?
  intro t
  by_cases h : t < l.length * 3
  · rw [show (l.flatMap encG).toArray.toList = l.flatMap encG from rfl, key l t h]
    have hs : t < (Go.Sort.flatK encG 3 l.toArray).size := by rw [Go.Sort.size_flatK]; simpa using h
    have hg := Go.Sort.get_flatK encG 3 l.toArray t (by simpa using h)
    rw [Array.getElem?_toList, Array.getElem?_eq_getElem hs, ← hg, getElem!_pos _ t hs]
  · rw [List.getElem?_eq_none (by simp [Go.Sort.size_flatK]; omega), List.getElem?_eq_none (by rw [show (l.flatMap encG).toArray.toList = l.flatMap encG from rfl, encG_len]; omega)]
def cmpG (x y : Int × Int × Int) : Int := Lib.compareInt x.1 y.1
theorem ltG (x y : Int × Int × Int) : ltOf cmpG x y = decide (x.1 < y.1) := by
  unfold ltOf cmpG Lib.compareInt
  by_cases h1 : x.1 < y.1
  · simp [h1]
  · by_cases h2 : y.1 < x.1 <;> simp [h1, h2]
theorem swoG : SWO (ltOf cmpG) where
  irrefl x := by rw [ltG]; simp
  trans x y z h1 h2 := by rw [ltG] at *; simp at *; omega
  ntrans x y z h1 h2 := by rw [ltG] at *; simp at *; omega
theorem isnan (a : Int) (W : World) : Calls Try.prog 44 #[.int .i64 a] W fun e w' => e = .returned (.bool false) ∧ w' = W := by
  go_enter Try.func44, Try.ntmps44
  go_wp2_with fail
  go_ret
  exact ⟨by simp, rfl⟩
theorem compare_int (a b : Int) (W : World) : Calls Try.prog 37 #[.int .i64 a, .int .i64 b] W fun e w' => e = .returned (.int .i64 (Lib.compareInt a b)) ∧ w' = W := by
  unfold Lib.compareInt
  have hn := isnan
  by_cases h1 : a < b
  · rw [if_pos h1]
    go_enter Try.func37, Try.ntmps37
    go_wp2_with (go_at_call 44; refine (hn _ _).mono ?_; rintro e w' ⟨rfl, rfl⟩)
    go_ret
    exact ⟨rfl, rfl⟩
  · rw [if_neg h1]
    by_cases h2 : b < a
    · rw [if_pos h2]
      go_enter Try.func37, Try.ntmps37
      go_wp2_with (go_at_call 44; refine (hn _ _).mono ?_; rintro e w' ⟨rfl, rfl⟩)
      go_ret
      exact ⟨rfl, rfl⟩
    · rw [if_neg h2]
      go_enter Try.func37, Try.ntmps37
      go_wp2_with (go_at_call 44; refine (hn _ _).mono ?_; rintro e w' ⟨rfl, rfl⟩)
      go_ret
      exact ⟨rfl, rfl⟩
theorem closure (x y : Int × Int × Int) (W : World) : Calls Try.prog 36 #[.agg (encG x).toArray, .agg (encG y).toArray] W fun e w' => e = .returned (.int .i64 (cmpG x y)) ∧ ∃ q os', w' = Go.Sort.grow (W.drewN q) os' := by
  have hcon := fun W' => compare_int x.1 y.1 W'
  unfold cmpG
  generalize Lib.compareInt x.1 y.1 = r at hcon ⊢
  simp only [encG]
  go_enter Try.func36, Try.ntmps36
  go_wp2_with (go_at_call 37; refine (hcon _).mono ?_; rintro e w' ⟨rfl, rfl⟩)
  go_ret
  exact ⟨rfl, 0, _, by rw [alloc_eq_grow, alloc_eq_grow, grow_grow]; rfl⟩
theorem cmpLays (blk off size : Nat) (w : World) : CmpLays Try.prog 36 #[] encG 3 cmpG blk off size w :=
  fun _ _ _ _ x y => closure x y _
theorem sort_none (p : Option Addr) (cap : Nat) (fv : Value) (w : World) : Calls Try.prog 35 #[.slice p 0 cap, fv] w fun e w' => e = .returned (.tuple #[]) ∧ w' = w := AnyF.slices_SortFunc_none sortG p cap fv w
theorem put_block (w : World) (n : Nat) (os : Array Obj) (g e : Nat) (cur : Array Value) (d : Array Value) (hb : w.heap[g]? = some (.cells cur e (0, 0))) :
    (Sort.grow (Sort.putRow id (Sort.ahead w n) g 0 d) os).heap[g]? = some (.cells (Sort.putCells id 0 d cur) e (0, 0)) := by
  have hg : g < w.heap.size := by
    rcases Nat.lt_or_ge g w.heap.size with h | h
    · exact h
    · rw [Array.getElem?_eq_none h] at hb; cases hb
  rw [Sort.heap_grow_old _ _ (by simpa using hg)]
  simp only [Sort.putRow, Sort.mapBlock, Array.getElem?_modify, Sort.heap_ahead]
  rw [if_pos trivial, hb]
  rfl
theorem put_other (w : World) (n : Nat) (os : Array Obj) (g k : Nat) (d : Array Value) (hk : k < w.heap.size) (hne : k ≠ g) :
    (Sort.grow (Sort.putRow id (Sort.ahead w n) g 0 d) os).heap[k]? = w.heap[k]? := by
  rw [Sort.heap_grow_old _ _ (by simpa using hk)]
  simp only [Sort.putRow, Sort.mapBlock, Array.getElem?_modify, Sort.heap_ahead]
  rw [if_neg (by omega)]
theorem put_cells (cur : Array Value) (ys : List Value) (h : ys.length ≤ cur.size) :
    (Sort.putCells id 0 ys.toArray cur).size = cur.size ∧ (Sort.putCells id 0 ys.toArray cur).toList.take ys.length = ys := by
  refine ⟨by simp [Sort.putCells], ?_⟩
  apply List.ext_getElem?
  intro j
  by_cases hj : j < ys.length
  · rw [List.getElem?_take_of_lt hj]
    simp [Sort.putCells, hj, show j < cur.size from by omega]
  · rw [List.getElem?_eq_none (by simp; omega), List.getElem?_eq_none (by omega)]
theorem sortOk : SortOk := by
  intro W v base gsl hown hbase hsm
  obtain ⟨hlen, hcase⟩ := hown
  rcases hcase with ⟨rfl, h0⟩ | ⟨g, cap, cur, rfl, hg, hb, hnc, hcm, hcs, htake⟩
  · have e0 : gsl = [] := List.length_eq_zero_iff.1 h0
    subst e0
    refine (sort_none none 0 _ W).mono ?_
    rintro e w' ⟨rfl, rfl⟩
    exact ⟨rfl, [], List.Perm.refl _, List.Pairwise.nil, World.ownsRow_nil _ _ _ _, RowKit.Below.refl _ _⟩
  · have hgl : g < W.heap.size := by
      rcases Nat.lt_or_ge g W.heap.size with h | h
      · exact h
      · rw [Array.getElem?_eq_none h] at hb; cases hb
    have hH : HoldsK encG 3 W g 0 gsl.toArray := by
      unfold HoldsK
      rw [flatK_toList]
      intro j hj
      have hj' : j < (gsl.flatMap encG).length := by simpa using hj
      rw [encG_len] at hj'
      refine ⟨?_, by simp [World.frozen?, hb]⟩
      have h1 : (cur.toList.take (gsl.length * 3))[j]? = (gsl.flatMap encG)[j]? := by rw [htake]
      rw [List.getElem?_take_of_lt (by omega)] at h1
      have h2 : (gsl.flatMap encG)[j]? = some ((gsl.flatMap encG).toArray[j]!) := by
        rw [getElem!_pos _ j hj]
        simp
      simp only [World.cell?, hb, Nat.zero_add, id]
      rw [← Array.getElem?_toList, h1, h2]
      rfl
    have eg : ∀ args w, (callFunc 36 args).run Try.prog w = .ok (.enter 36 args) w := enters_of Try.func36 (by kernel_rfl) rfl
    have hcon := AnyQ.slices_SortFunc sortG 3 Try.isAgg50 Try.sizeOf50 encG (fun _ => rfl) (fun x v hv => by simp [encG] at hv; rcases hv with rfl | rfl | rfl <;> rfl) cmpG swoG 36 #[] g 0 cap gsl.toArray W eg (cmpLays g 0 _ W) hH hgl (by simp; omega)
    change Calls Try.prog 35 _ _ _ at hcon
    refine hcon.mono ?_
    rintro e w' ⟨rfl, d', n, os, hp, hso, rfl⟩
    obtain ⟨l', rfl⟩ : ∃ l' : List (Int × Int × Int), d' = l'.toArray := ⟨d'.toList, by simp⟩
    have hl : l'.length = gsl.length := by simpa using hp.1
    have hperm : l'.Perm gsl := by
      have := hp.2.2
      simpa [Array.toList_extract, hl, List.take_of_length_le (Nat.le_of_eq hl)] using this
    refine ⟨rfl, l', hperm, ?_, ?_, ?_⟩
    · rw [List.pairwise_iff_getElem]
      intro i j hi hj hij
      have := hso i j (Nat.zero_le _) hij (by simpa [hl] using hj)
      rw [ltG] at this
      rw [getElem!_pos l'.toArray j (by simpa using hj), getElem!_pos l'.toArray i (by simpa using hi)] at this
      simp at this
      omega
    · unfold sortWorldK putRowK
      rw [flatK_toList]
      have hlc : (l'.flatMap encG).length ≤ cur.size := by rw [encG_len, hl]; omega
      obtain ⟨p1, p2⟩ := put_cells cur (l'.flatMap encG) hlc
      refine ⟨by rw [encG_len], .inr ⟨g, cap, _, by rw [hl], hg, put_block W n os g 50 cur _ hb, by omega, hcm, by omega, ?_⟩⟩
      rw [← encG_len]
      exact p2
    · unfold sortWorldK putRowK
      rw [flatK_toList]
      exact ⟨rfl, rfl, rfl, by simp, fun k hk => put_other W n os g k _ (by omega) (by omega)⟩
end Go.Proofs.Ytihmanjgkjenbaa.By
