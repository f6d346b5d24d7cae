/- Pick, over weights from 0 to 3: just an index that has a weight is picked; if none has one it says so. -/
import Derived.Test.YtfnnjlcdjbablaaPRndChosenx1
import Derived.Lib.Mul64
import Derived.OpenShut
import Derived.Laws.Bits64b
namespace Go.Proofs.Ytfnnjlcdjbablaa.Pure
open Go.RowKit Go.Proofs.Ytfnnjlcdjbablaa.PRndChosen Go.Proofs.YtfnnjlcdjbablaaW.PrintWords Go.Proofs.YtfnnjlcdjbablaaW.PrintLast Go.Proofs.YtfnnjlcdjbablaaW.PrintMore
theorem maskN (a : Nat) (ha : a < 18446744073709551616) : bits .and .u64 (a : Int) 4294967295 = ((a % 4294967296 : Nat) : Int) := by
  have h := bits_and_u64_nat a 4294967295 ha (by omega)
  have e : a &&& 4294967295 = a % 4294967296 := Nat.and_two_pow_sub_one_eq_mod a 32
  rw [e] at h
  exact h
theorem divN (a : Nat) : (a : Int) / 4294967296 = ((a / 4294967296 : Nat) : Int) := by omega
theorem mulN (a b : Nat) : (a : Int) * (b : Int) = ((a * b : Nat) : Int) := (Int.natCast_mul a b).symm
theorem addN (a b : Nat) : (a : Int) + (b : Int) = ((a + b : Nat) : Int) := (Int.natCast_add a b).symm
theorem wrapN (a : Nat) (ha : a < 18446744073709551616) : IntKind.u64.wrap (a : Int) = (a : Int) := by rw [IntKind.wrap_u64]; omega
theorem wrapM (a : Nat) : IntKind.u64.wrap (a : Int) = ((a % 18446744073709551616 : Nat) : Int) := by rw [IntKind.wrap_u64]; omega

theorem mul64 (x y : Nat) (hx : x < 18446744073709551616) (hy : y < 18446744073709551616) :
    bits_Mul64.f x y = some (((x * y / 18446744073709551616 : Nat) : Int), ((x * y % 18446744073709551616 : Nat) : Int)) := by
  obtain ⟨bd, bt, bw, hhi⟩ := Lib.mul64_hi x y hx hy
  have ba := Lib.half_mul_le (a := x / 4294967296) (b := y / 4294967296) (by omega) (by omega)
  have bb := Lib.half_mul_le (a := x / 4294967296) (b := y % 4294967296) (by omega) (by omega)
  have bc := Lib.half_mul_le (a := x % 4294967296) (b := y / 4294967296) (by omega) (by omega)
  have ba' : x / 4294967296 * (y / 4294967296) < 18446744073709551616 := by omega
  have bb' : x / 4294967296 * (y % 4294967296) < 18446744073709551616 := by omega
  have bc' : x % 4294967296 * (y / 4294967296) < 18446744073709551616 := by omega
  have bh1 : x / 4294967296 * (y / 4294967296) + (x / 4294967296 * (y % 4294967296) + x % 4294967296 * (y % 4294967296) / 4294967296) / 4294967296 < 18446744073709551616 := by omega
  have bh : x / 4294967296 * (y / 4294967296) + (x / 4294967296 * (y % 4294967296) + x % 4294967296 * (y % 4294967296) / 4294967296) / 4294967296 + ((x / 4294967296 * (y % 4294967296) + x % 4294967296 * (y % 4294967296) / 4294967296) % 4294967296 + x % 4294967296 * (y / 4294967296)) / 4294967296 < 18446744073709551616 := by omega
  unfold bits_Mul64.f
  simp only [maskN x hx, maskN y hy, divN, mulN, addN, wrapN _ bd, wrapN _ bb', wrapN _ bt, maskN _ bt, wrapN _ bc', wrapN _ bw, wrapN _ ba', wrapN _ bh1, wrapN _ bh, wrapM (x * y)]
  rw [hhi]

theorem u64_range (n : Int) : 0 ≤ IntKind.u64.wrap n ∧ IntKind.u64.wrap n < 18446744073709551616 := by rw [IntKind.wrap_u64]; omega
theorem xor_range (a b : Int) : 0 ≤ Go.bits .xor .u64 a b ∧ Go.bits .xor .u64 a b < 18446744073709551616 := by unfold Go.bits; exact u64_range _
theorem u64_id {n : Int} (h0 : 0 ≤ n) (h : n < 18446744073709551616) : IntKind.u64.wrap n = n := by rw [IntKind.wrap_u64]; omega

theorem mix_range (a : Int) : ∃ m : Nat, rnd_mix.f a = some (m : Int) ∧ m < 18446744073709551616 := by
  unfold rnd_mix.f
  generalize IntKind.u64.wrap _ = z
  have h := xor_range z (z / 2147483648)
  refine ⟨(Go.bits .xor .u64 z (z / 2147483648)).toNat, ?_, ?_⟩
  · rw [Int.toNat_of_nonneg h.1]
  · omega

theorem next_range (s : Int) : ∃ m : Nat, rnd_Next.f s = some ((m : Int), IntKind.u64.wrap (s + 11400714819323198485)) ∧ m < 18446744073709551616 := by
  obtain ⟨m, hm, h⟩ := mix_range (IntKind.u64.wrap (s + 11400714819323198485))
  refine ⟨m, ?_, h⟩
  unfold rnd_Next.f
  rw [hm]; rfl

theorem hi_lt (x n : Nat) (hx : x < 18446744073709551616) (hn : 1 ≤ n) : x * n / 18446744073709551616 < n := by
  apply Nat.div_lt_of_lt_mul
  exact Nat.mul_lt_mul_of_pos_right hx (by omega)

theorem below_is (s n : Int) (h : 1 ≤ n) (hn : n ≤ 9223372036854775807) : ∃ k : Nat, rnd_Below.f s n = some ((k : Int), IntKind.u64.wrap (s + 11400714819323198485)) ∧ (k : Int) < n := by
  obtain ⟨m, hm, hlt⟩ := next_range s
  obtain ⟨y, rfl⟩ := Int.eq_ofNat_of_zero_le (show 0 ≤ n by omega)
  have hy : y < 18446744073709551616 := by omega
  have hb := hi_lt m y hlt (by omega)
  have hw : wrap64 ((m * y / 18446744073709551616 : Nat) : Int) = ((m * y / 18446744073709551616 : Nat) : Int) := by unfold wrap64; omega
  refine ⟨m * y / 18446744073709551616, ?_, by omega⟩
  unfold rnd_Below.f
  rw [if_neg (by omega), hm]
  simp only [Option.bind_some]
  rw [show IntKind.u64.wrap (y : Int) = (y : Int) from wrapN y (by omega), mul64 m y hlt (by omega)]
  simp only [Option.bind_some]
  rw [hw]

theorem w64 {x : Int} (h0 : -9223372036854775808 ≤ x) (h1 : x < 9223372036854775808) : wrap64 x = x := by unfold wrap64; omega
theorem rd_at (pre : List Int) (y : Int) (suf : List Int) : rd (pre ++ y :: suf) (pre.length : Int) = y := by simp [rd]
theorem split_next (pre : List Int) (y : Int) (suf : List Int) : pre ++ y :: suf = (pre ++ [y]) ++ suf := by simp
theorem len_next (pre : List Int) (y : Int) : ((pre ++ [y]).length : Int) = (pre.length : Int) + 1 := by simp
/-- What both checks of weights tell. -/
def wf : Int → List Int → Int
  | acc, [] => if acc = 0 then 11 else 0
  | acc, y :: ys => if y < 0 then 1 else if y > 1048576 then 1 else wf (acc + y) ys
def sum : List Int → Int
  | [] => 0
  | y :: ys => y + sum ys

theorem weights_l0 (suf : List Int) : ∀ (pre : List Int) (acc : Int), pre.length + suf.length ≤ 40 → 0 ≤ acc → acc ≤ pre.length * 1048576 →
    Ev (fun k => rnd_Weights.l0 k acc (pre ++ suf) ((pre ++ suf).length : Int) (pre.length : Int)) (wf acc suf) := by
  induction suf with
  | nil =>
    intro pre acc hl h0 h1
    refine ⟨1, fun k hk => ?_⟩
    obtain ⟨k, rfl⟩ : ∃ m, k = m + 1 := ⟨k - 1, by omega⟩
    simp only [rnd_Weights.l0, wf]
    rw [if_neg (by simp)]
    split <;> rfl
  | cons y ys ih =>
    intro pre acc hl h0 h1
    have hlt : (pre.length : Int) < ((pre ++ y :: ys).length : Int) := by simp; omega
    have hl' : pre.length + (ys.length + 1) ≤ 40 := hl
    by_cases c0 : y < 0
    · refine ⟨1, fun k hk => ?_⟩
      obtain ⟨k, rfl⟩ : ∃ m, k = m + 1 := ⟨k - 1, by omega⟩
      simp only [rnd_Weights.l0, wf, rd_at]
      rw [if_pos hlt, if_pos (by omega), if_pos hlt, if_pos c0, if_pos c0]
    · by_cases c1 : y > 1048576
      · refine ⟨1, fun k hk => ?_⟩
        obtain ⟨k, rfl⟩ : ∃ m, k = m + 1 := ⟨k - 1, by omega⟩
        simp only [rnd_Weights.l0, wf, rd_at]
        rw [if_pos hlt, if_pos (by omega), if_pos hlt, if_neg c0, if_pos c1, if_neg c0, if_pos c1]
      · have h := ih (pre ++ [y]) (acc + y) (by simp; omega) (by omega) (by simp; omega)
        rw [show wf acc (y :: ys) = wf (acc + y) ys from by simp only [wf]; rw [if_neg c0, if_neg c1]]
        refine Ev.step (fun k => ?_) h
        simp only [rnd_Weights.l0, rd_at]
        rw [if_pos hlt, if_pos (by omega), if_pos hlt, if_neg c0, if_neg c1, w64 (by omega) (by omega), w64 (by omega) (by omega), len_next]
        simp

theorem weights (l : List Int) (h : l.length ≤ 40) : Ev (fun k => rnd_Weights.f k l) (wf 0 l) := by
  have := weights_l0 l [] 0 (by simpa using h) (by omega) (by simp)
  refine Ev.congr (fun k => ?_) this
  unfold rnd_Weights.f
  rw [if_neg (by omega)]
  rfl
theorem weights_large (l : List Int) (h : ¬ l.length ≤ 40) : Ev (fun k => rnd_Weights.f k l) 2 := by
  refine Ev.congr (fun k => ?_) (Ev.now 2)
  unfold rnd_Weights.f
  rw [if_pos (by omega)]

theorem wf_cases (acc : Int) (l : List Int) : wf acc l = 0 ∨ wf acc l = 1 ∨ wf acc l = 11 := by
  induction l generalizing acc with
  | nil => simp only [wf]; split <;> simp
  | cons y ys ih =>
    simp only [wf]
    split
    · simp
    · split
      · simp
      · exact ih _
theorem wf_ok (acc : Int) (l : List Int) (h : wf acc l = 0) : (∀ y ∈ l, 0 ≤ y ∧ y ≤ 1048576) ∧ acc + sum l ≠ 0 := by
  induction l generalizing acc with
  | nil =>
    simp only [wf] at h
    refine ⟨by simp, ?_⟩
    intro h0
    simp only [sum] at h0
    rw [if_pos (by omega)] at h
    omega
  | cons y ys ih =>
    simp only [wf] at h
    by_cases c0 : y < 0
    · rw [if_pos c0] at h; omega
    · by_cases c1 : y > 1048576
      · rw [if_neg c0, if_pos c1] at h; omega
      · rw [if_neg c0, if_neg c1] at h
        obtain ⟨h1, h2⟩ := ih _ h
        refine ⟨?_, by simp only [sum]; omega⟩
        intro z hz
        rcases List.mem_cons.1 hz with rfl | hz
        · omega
        · exact h1 z hz
theorem sum_bd (l : List Int) (h : ∀ y ∈ l, 0 ≤ y ∧ y ≤ 1048576) : 0 ≤ sum l ∧ sum l ≤ l.length * 1048576 := by
  induction l with
  | nil => simp [sum]
  | cons y ys ih =>
    have h1 := h y (by simp)
    have h2 := ih (fun z hz => h z (by simp [hz]))
    simp only [sum, List.length_cons]
    omega

/-- The index that is picked: the least one up to which the weights are more than x. -/
def pick : Int → Nat → List Int → Nat
  | _, i, [] => i
  | x, i, y :: ys => if x < y then i else pick (x - y) (i + 1) ys

theorem pick_l1 (s : Int) (suf : List Int) : ∀ (pre : List Int) (x : Int), pre.length + suf.length ≤ 40 → (∀ y ∈ suf, 0 ≤ y ∧ y ≤ 1048576) → 0 ≤ x → x < sum suf →
    Ev (fun k => rnd_Pick.l1 k s x (pre ++ suf) ((pre ++ suf).length : Int) (pre.length : Int)) ((pick x pre.length suf : Nat), s, 0) := by
  induction suf with
  | nil => intro pre x hl hy h0 h1; simp only [sum] at h1; omega
  | cons y ys ih =>
    intro pre x hl hy h0 h1
    have hlt : (pre.length : Int) < ((pre ++ y :: ys).length : Int) := by simp; omega
    have hl' : pre.length + (ys.length + 1) ≤ 40 := hl
    have hy0 := hy y (by simp)
    have hb := sum_bd (y :: ys) hy
    simp only [List.length_cons] at hb
    by_cases c : x < y
    · refine ⟨1, fun k hk => ?_⟩
      obtain ⟨k, rfl⟩ : ∃ m, k = m + 1 := ⟨k - 1, by omega⟩
      simp only [rnd_Pick.l1, pick, rd_at]
      rw [if_pos hlt, if_pos (by omega), if_pos hlt, if_pos c, if_pos c]
    · simp only [sum] at h1
      have h := ih (pre ++ [y]) (x - y) (by simp; omega) (fun z hz => hy z (by simp [hz])) (by omega) (by omega)
      rw [show pick x pre.length (y :: ys) = pick (x - y) (pre ++ [y]).length ys from by simp only [pick]; rw [if_neg c]; simp]
      simp only [sum] at hb
      refine Ev.step (fun k => ?_) h
      simp only [rnd_Pick.l1, rd_at]
      rw [if_pos hlt, if_pos (by omega), if_pos hlt, if_neg c, w64 (by omega) (by omega), w64 (by omega) (by omega), len_next]
      simp

theorem pick_l0 (s : Int) (xs : List Int) (r : Int × Int × Int) (suf : List Int) : ∀ (pre : List Int) (acc : Int), pre.length + suf.length ≤ 40 → (∀ y ∈ suf, 0 ≤ y ∧ y ≤ 1048576) → 0 ≤ acc → acc ≤ pre.length * 1048576 →
    Ev (fun k => (rnd_Below.f s (acc + sum suf)).bind fun bt => rnd_Pick.l1 k bt.2 bt.1 xs (xs.length : Int) 0) r →
    Ev (fun k => rnd_Pick.l0 k s xs acc (pre ++ suf) ((pre ++ suf).length : Int) (pre.length : Int)) r := by
  induction suf with
  | nil =>
    intro pre acc hl hy h0 h1 H
    refine Ev.step (fun k => ?_) H
    simp only [rnd_Pick.l0, sum]
    rw [if_neg (by simp)]
    simp
  | cons y ys ih =>
    intro pre acc hl hy h0 h1 H
    have hlt : (pre.length : Int) < ((pre ++ y :: ys).length : Int) := by simp; omega
    have hl' : pre.length + (ys.length + 1) ≤ 40 := hl
    have hy0 := hy y (by simp)
    have h := ih (pre ++ [y]) (acc + y) (by simp; omega) (fun z hz => hy z (by simp [hz])) (by omega) (by simp; omega) (by simpa [sum, Int.add_assoc] using H)
    refine Ev.step (fun k => ?_) h
    simp only [rnd_Pick.l0, rd_at]
    rw [if_pos hlt, if_pos (by omega), if_pos hlt, w64 (by omega) (by omega), w64 (by omega) (by omega), len_next]
    simp

theorem pick_has (l : List Int) : ∀ (x : Int) (i : Nat), (∀ y ∈ l, 0 ≤ y ∧ y ≤ 1048576) → 0 ≤ x → x < sum l → ∃ j : Nat, pick x i l = i + j ∧ j < l.length ∧ 0 < l.getD j 0 := by
  induction l with
  | nil => intro x i hy h0 h1; simp only [sum] at h1; omega
  | cons y ys ih =>
    intro x i hy h0 h1
    by_cases c : x < y
    · exact ⟨0, by simp only [pick]; rw [if_pos c]; rfl, by simp, by simp; omega⟩
    · simp only [sum] at h1
      obtain ⟨j, e, hl, hp⟩ := ih (x - y) (i + 1) (fun z hz => hy z (by simp [hz])) (by omega) (by omega)
      refine ⟨j + 1, by simp only [pick]; rw [if_neg c, e]; omega, by simp; omega, ?_⟩
      simpa using hp
theorem none_pos (l : List Int) : ∀ i, (∀ y ∈ l, 0 ≤ y ∧ y ≤ 1048576) → sum l = 0 → idxPos l i = -1 := by
  induction l with
  | nil => intro i _ _; rfl
  | cons y ys ih =>
    intro i hy h
    have h1 := hy y (by simp)
    have h2 := sum_bd ys (fun z hz => hy z (by simp [hz]))
    simp only [sum] at h
    simp only [idxPos]
    rw [if_neg (by omega)]
    exact ih (i + 1) (fun z hz => hy z (by simp [hz])) (by omega)

theorem tmod4 (x : Int) : -4 < Int.tmod x 4 ∧ Int.tmod x 4 < 4 := by
  by_cases c : 0 ≤ x
  · rw [Int.tmod_eq_emod_of_nonneg c]; omega
  · obtain ⟨n, rfl⟩ : ∃ n : Int, x = -n := ⟨-x, by omega⟩
    rw [Int.neg_tmod, Int.tmod_eq_emod_of_nonneg (by omega)]; omega
/-- A number from 0 to 3. -/
def b4 (x : Int) : Int := if Int.tmod x 4 < 0 then Int.tmod x 4 + 4 else Int.tmod x 4
theorem b4_range (x : Int) : 0 ≤ b4 x ∧ b4 x ≤ 3 := by
  obtain ⟨h2, h1⟩ := tmod4 x
  unfold b4
  split <;> omega
theorem below4 (x : Int) : mootmake_Below.f x 4 = some (b4 x) := by
  obtain ⟨h2, h1⟩ := tmod4 x
  unfold mootmake_Below.f b4
  rw [if_neg (by omega)]
  by_cases c : Int.tmod x 4 < 0
  · rw [if_pos c, if_pos c, w64 (by omega) (by omega)]
  · rw [if_neg c, if_neg c]

theorem rolled_true : mootkeep5_rolled.f = some true := by decide +kernel

/-- What is asked of the weights that were made. -/
def done (k : Nat) (s : Int) (x5 : List Int) : Option Bool :=
  (rnd_Pick.f k s x5).bind fun bt120 => (if bt120.2.2 = 0 then ((mootkeep5_rolled.f).bind fun t123 => (if t123 = true then (if bt120.1 ≥ 0 then (if bt120.1 < (x5.length : Int) then (if 0 ≤ bt120.1 then (some (decide ((rd x5 bt120.1) > 0))) else (none)) else (some false)) else (some false)) else (some false))) else ((mootkeep5_rolled.f).bind fun t125 => (if t125 = true then (if bt120.2.2 = 11 then ((slices_ContainsFunc_pos.f x5).bind fun t126 => (some (!t126))) else (some false)) else (some false))))

theorem done_true (s : Int) (w : List Int) (hl : w.length ≤ 12) (hw : ∀ y ∈ w, 0 ≤ y ∧ y ≤ 3) : Ev (fun k => done k s w) true := by
  have hr : ∀ y ∈ w, 0 ≤ y ∧ y ≤ 1048576 := fun y hy => by have := hw y hy; omega
  have e1 := weights w (by omega)
  have hb := sum_bd w hr
  by_cases h0 : sum w = 0
  · have hf : wf 0 w = 11 := by
      have : ∀ (l : List Int) (acc : Int), (∀ y ∈ l, 0 ≤ y ∧ y ≤ 1048576) → 0 ≤ acc → acc + sum l = 0 → wf acc l = 11 := by
        intro l
        induction l with
        | nil => intro acc _ _ h; simp only [sum] at h; simp only [wf]; rw [if_pos (by omega)]
        | cons y ys ih =>
          intro acc hy ha h
          have h1 := hy y (by simp)
          simp only [sum] at h
          simp only [wf]
          rw [if_neg (by omega), if_neg (by omega)]
          exact ih _ (fun z hz => hy z (by simp [hz])) (by omega) (by omega)
      exact this w 0 hr (by omega) (by omega)
    rw [hf] at e1
    have p1 : Ev (fun k => rnd_Pick.f k s w) (0, 0, 11) := by
      unfold rnd_Pick.f
      exact Ev.bind e1 (Ev.congr (fun k => if_neg (by decide)) (Ev.now _))
    unfold done
    refine Ev.bind p1 ?_
    refine Ev.congr (fun k => ?_) (Ev.now true)
    rw [if_neg (by decide), rolled_true]
    simp only [Option.bind_some]
    rw [if_pos trivial, if_pos trivial]
    simp only [slices_ContainsFunc_pos.f, Option.bind_some]
    rw [none_pos w 0 hr h0]
    rfl
  · have hf : wf 0 w = 0 := by
      have : ∀ (l : List Int) (acc : Int), (∀ y ∈ l, 0 ≤ y ∧ y ≤ 1048576) → 0 ≤ acc → acc + sum l ≠ 0 → wf acc l = 0 := by
        intro l
        induction l with
        | nil => intro acc _ _ h; simp only [sum] at h; simp only [wf]; rw [if_neg (by omega)]
        | cons y ys ih =>
          intro acc hy ha h
          have h1 := hy y (by simp)
          simp only [sum] at h
          simp only [wf]
          rw [if_neg (by omega), if_neg (by omega)]
          exact ih _ (fun z hz => hy z (by simp [hz])) (by omega) (by omega)
      exact this w 0 hr (by omega) (by omega)
    rw [hf] at e1
    obtain ⟨x, b1, hx⟩ := below_is s (sum w) (by omega) (by omega)
    obtain ⟨j, hj, hjl, hjp⟩ := pick_has w x 0 hr (by omega) hx
    have p1 : Ev (fun k => rnd_Pick.f k s w) ((pick x 0 w : Nat), IntKind.u64.wrap (s + 11400714819323198485), 0) := by
      unfold rnd_Pick.f
      refine Ev.bind e1 ?_
      refine Ev.congr (fun k => if_pos rfl) ?_
      refine pick_l0 s w _ w [] 0 (by simp; omega) hr (by omega) (by simp) ?_
      rw [show (0 : Int) + sum w = sum w from by omega, b1]
      simp only [Option.bind_some]
      exact pick_l1 _ w [] x (by simp; omega) hr (by omega) hx
    unfold done
    refine Ev.bind p1 ?_
    refine Ev.congr (fun k => ?_) (Ev.now true)
    rw [if_pos rfl, rolled_true]
    simp only [Option.bind_some]
    rw [hj, if_pos trivial, if_pos (by omega), if_pos (by omega), if_pos (by omega)]
    have : rd w ((0 + j : Nat) : Int) > 0 := by simpa [rd] using hjp
    rw [decide_eq_true this]

theorem chosen_l0 (s : Int) (suf : List Int) : ∀ (pre w : List Int), pre.length + suf.length ≤ 12 → w.length = pre.length → (∀ y ∈ w, 0 ≤ y ∧ y ≤ 3) →
    Ev (fun k => mootkeep5_RndChosen.l0 k s w (pre ++ suf) ((pre ++ suf).length : Int) (pre.length : Int)) true := by
  induction suf with
  | nil =>
    intro pre w hl hwl hw
    refine Ev.step (fun k => ?_) (done_true s w (by simp at hl; omega) hw)
    simp only [mootkeep5_RndChosen.l0]
    rw [if_neg (by simp)]
    rfl
  | cons y ys ih =>
    intro pre w hl hwl hw
    have hl' : pre.length + (ys.length + 1) ≤ 12 := hl
    have hlt : (pre.length : Int) < ((pre ++ y :: ys).length : Int) := by simp; omega
    have h := ih (pre ++ [y]) (w ++ [b4 y]) (by simp; omega) (by simp; omega) (by
      intro z hz
      rcases List.mem_append.1 hz with hz | hz
      · exact hw z hz
      · rw [List.mem_singleton.1 hz]; exact b4_range y)
    refine Ev.step (fun k => ?_) h
    simp only [mootkeep5_RndChosen.l0, rd_at]
    rw [if_pos hlt, if_pos (by omega), if_pos hlt, below4]
    simp only [Option.bind_some]
    rw [if_pos (by omega), w64 (by omega) (by omega), len_next]
    simp

theorem RndChosen : mootkeep5_RndChosen.Pure := by
  intro s l hs hm hy hw
  have h1 : 0 ≤ mn (l.length : Int) 12 := by unfold mn; omega
  have h2 : mn (l.length : Int) 12 ≤ (l.length : Int) := by unfold mn; omega
  have h3 : mn (l.length : Int) 12 ≤ 12 := by unfold mn; omega
  obtain ⟨k, hk⟩ := (chosen_l0 s (l.take (mn (l.length : Int) 12).toNat) [] [] (by simp; omega) rfl (by simp)).rounds
  refine ⟨k, ?_⟩
  unfold mootkeep5_RndChosen.f
  rw [if_pos h1, if_pos h2]
  exact hk
end Go.Proofs.Ytfnnjlcdjbablaa.Pure
