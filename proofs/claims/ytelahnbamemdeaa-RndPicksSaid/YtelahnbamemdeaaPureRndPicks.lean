/- Weights and Pick of the program answer as the reference's for all weights and states. -/
import Derived.Test.YtelahnbamemdeaaPRndPicksx2
import Derived.Lib.Mul64
import Derived.OpenShut
import Derived.Laws.Bits64b
namespace Go.Proofs.Ytelahnbamemdeaa.Pure
open Go.RowKit Go.Proofs.Ytelahnbamemdeaa.PRndPicks Go.Proofs.YtelahnbamemdeaaW.PrintWords Go.Proofs.YtelahnbamemdeaaW.PrintLast Go.Proofs.YtelahnbamemdeaaW.PrintMore
theorem maskN (a : Nat) (ha : a < 18446744073709551616) : bits .and .u64 (a : Int) 4294967295 = ((a % 4294967296 : Nat) : Int) := by
  have h := bits_and_u64_nat a 4294967295 ha (by omega)
  have e : a &&& 4294967295 = a % 4294967296 := Nat.and_two_pow_sub_one_eq_mod a 32
  rw [e] at h
  exact h
theorem divN (a : Nat) : (a : Int) / 4294967296 = ((a / 4294967296 : Nat) : Int) := by omega
theorem mulN (a b : Nat) : (a : Int) * (b : Int) = ((a * b : Nat) : Int) := (Int.natCast_mul a b).symm
theorem addN (a b : Nat) : (a : Int) + (b : Int) = ((a + b : Nat) : Int) := (Int.natCast_add a b).symm
theorem wrapN (a : Nat) (ha : a < 18446744073709551616) : IntKind.u64.wrap (a : Int) = (a : Int) := by rw [IntKind.wrap_u64]; omega
theorem wrapM (a : Nat) : IntKind.u64.wrap (a : Int) = ((a % 18446744073709551616 : Nat) : Int) := by rw [IntKind.wrap_u64]; omega

theorem mul64 (x y : Nat) (hx : x < 18446744073709551616) (hy : y < 18446744073709551616) :
    bits_Mul64.f x y = some (((x * y / 18446744073709551616 : Nat) : Int), ((x * y % 18446744073709551616 : Nat) : Int)) := by
  obtain ⟨bd, bt, bw, hhi⟩ := Lib.mul64_hi x y hx hy
  have ba := Lib.half_mul_le (a := x / 4294967296) (b := y / 4294967296) (by omega) (by omega)
  have bb := Lib.half_mul_le (a := x / 4294967296) (b := y % 4294967296) (by omega) (by omega)
  have bc := Lib.half_mul_le (a := x % 4294967296) (b := y / 4294967296) (by omega) (by omega)
  have ba' : x / 4294967296 * (y / 4294967296) < 18446744073709551616 := by omega
  have bb' : x / 4294967296 * (y % 4294967296) < 18446744073709551616 := by omega
  have bc' : x % 4294967296 * (y / 4294967296) < 18446744073709551616 := by omega
  have bh1 : x / 4294967296 * (y / 4294967296) + (x / 4294967296 * (y % 4294967296) + x % 4294967296 * (y % 4294967296) / 4294967296) / 4294967296 < 18446744073709551616 := by omega
  have bh : x / 4294967296 * (y / 4294967296) + (x / 4294967296 * (y % 4294967296) + x % 4294967296 * (y % 4294967296) / 4294967296) / 4294967296 + ((x / 4294967296 * (y % 4294967296) + x % 4294967296 * (y % 4294967296) / 4294967296) % 4294967296 + x % 4294967296 * (y / 4294967296)) / 4294967296 < 18446744073709551616 := by omega
  unfold bits_Mul64.f
  simp only [maskN x hx, maskN y hy, divN, mulN, addN, wrapN _ bd, wrapN _ bb', wrapN _ bt, maskN _ bt, wrapN _ bc', wrapN _ bw, wrapN _ ba', wrapN _ bh1, wrapN _ bh, wrapM (x * y)]
  rw [hhi]

theorem u64_range (n : Int) : 0 ≤ IntKind.u64.wrap n ∧ IntKind.u64.wrap n < 18446744073709551616 := by rw [IntKind.wrap_u64]; omega
theorem xor_range (a b : Int) : 0 ≤ Go.bits .xor .u64 a b ∧ Go.bits .xor .u64 a b < 18446744073709551616 := by unfold Go.bits; exact u64_range _
theorem u64_id {n : Int} (h0 : 0 ≤ n) (h : n < 18446744073709551616) : IntKind.u64.wrap n = n := by rw [IntKind.wrap_u64]; omega

theorem mix_range (a : Int) : ∃ m : Nat, rnd_mix.f a = some (m : Int) ∧ m < 18446744073709551616 := by
  unfold rnd_mix.f
  generalize IntKind.u64.wrap _ = z
  have h := xor_range z (z / 2147483648)
  refine ⟨(Go.bits .xor .u64 z (z / 2147483648)).toNat, ?_, ?_⟩
  · rw [Int.toNat_of_nonneg h.1]
  · omega

theorem next_range (s : Int) : ∃ m : Nat, rnd_Next.f s = some ((m : Int), IntKind.u64.wrap (s + 11400714819323198485)) ∧ m < 18446744073709551616 := by
  obtain ⟨m, hm, h⟩ := mix_range (IntKind.u64.wrap (s + 11400714819323198485))
  refine ⟨m, ?_, h⟩
  unfold rnd_Next.f
  rw [hm]; rfl

theorem hi_lt (x n : Nat) (hx : x < 18446744073709551616) (hn : 1 ≤ n) : x * n / 18446744073709551616 < n := by
  apply Nat.div_lt_of_lt_mul
  exact Nat.mul_lt_mul_of_pos_right hx (by omega)

theorem tdiv_u64 {z s : Int} (h0 : 0 ≤ z) (h : z < 18446744073709551616) (hs : 0 < s) : IntKind.u64.wrap (z.tdiv s) = z / s := by
  rw [Int.tdiv_eq_ediv_of_nonneg h0]
  exact u64_id (Int.ediv_nonneg h0 (by omega)) (Int.lt_of_le_of_lt (Int.ediv_le_self _ h0) h)

theorem spread_mix {z : Int} (h0 : 0 ≤ z) (h : z < 18446744073709551616) : mootref5_spread.f z = rnd_mix.f z := by
  unfold mootref5_spread.f rnd_mix.f mootref5_spread.e mootref5_spread.r
  rw [tdiv_u64 h0 h (by omega)]
  generalize e1 : IntKind.u64.wrap (Go.bits .xor .u64 z (z / 1073741824) * 13787848793156543929) = t1
  have r1 : 0 ≤ t1 ∧ t1 < 18446744073709551616 := by rw [← e1]; exact u64_range _
  rw [tdiv_u64 r1.1 r1.2 (by omega)]
  generalize e2 : IntKind.u64.wrap (Go.bits .xor .u64 t1 (t1 / 134217728) * 10723151780598845931) = t2
  have r2 : 0 ≤ t2 ∧ t2 < 18446744073709551616 := by rw [← e2]; exact u64_range _
  rw [tdiv_u64 r2.1 r2.2 (by omega)]
  have r3 := xor_range t2 (t2 / 2147483648)
  rw [u64_id r3.1 r3.2]

theorem ref_next (s : Int) : mootref5_Rnd_Next.f s = rnd_Next.f s := by
  unfold mootref5_Rnd_Next.f rnd_Next.f
  have h := u64_range (s + 11400714819323198485)
  rw [spread_mix h.1 h.2]

/-- The high half by the reference's halves. -/
theorem ref_hi (x y : Nat) (hx : x < 18446744073709551616) (hy : y < 18446744073709551616) :
    x / 4294967296 * (y / 4294967296) + x / 4294967296 * (y % 4294967296) / 4294967296 + x % 4294967296 * (y / 4294967296) / 4294967296 +
      (x % 4294967296 * (y % 4294967296) / 4294967296 + x / 4294967296 * (y % 4294967296) % 4294967296 + x % 4294967296 * (y / 4294967296) % 4294967296) / 4294967296 = x * y / 18446744073709551616 := by
  obtain ⟨_, _, _, hhi⟩ := Lib.mul64_hi x y hx hy
  rw [← hhi]
  generalize x / 4294967296 * (y / 4294967296) = a
  generalize x / 4294967296 * (y % 4294967296) = b
  generalize x % 4294967296 * (y / 4294967296) = c
  generalize x % 4294967296 * (y % 4294967296) = d
  omega

theorem below_is (s n : Int) (h : 1 ≤ n) (hn : n ≤ 9223372036854775807) : ∃ k : Nat, rnd_Below.f s n = some ((k : Int), IntKind.u64.wrap (s + 11400714819323198485)) ∧ mootref5_Rnd_Below.f s n = some ((k : Int), IntKind.u64.wrap (s + 11400714819323198485)) ∧ (k : Int) < n := by
  obtain ⟨m, hm, hlt⟩ := next_range s
  obtain ⟨y, rfl⟩ := Int.eq_ofNat_of_zero_le (show 0 ≤ n by omega)
  have hy : y < 18446744073709551616 := by omega
  have hb := hi_lt m y hlt (by omega)
  have hw : wrap64 ((m * y / 18446744073709551616 : Nat) : Int) = ((m * y / 18446744073709551616 : Nat) : Int) := by unfold wrap64; omega
  refine ⟨m * y / 18446744073709551616, ?_, ?_, by omega⟩
  · unfold rnd_Below.f
    rw [if_neg (by omega), hm]
    simp only [Option.bind_some]
    rw [show IntKind.u64.wrap (y : Int) = (y : Int) from wrapN y (by omega), mul64 m y hlt (by omega)]
    simp only [Option.bind_some]
    rw [hw]
  · unfold mootref5_Rnd_Below.f
    rw [if_neg (by omega), ref_next, hm]
    simp only [Option.bind_some]
    have hhi := ref_hi m y hlt hy
    have ba := Lib.half_mul_le (a := m / 4294967296) (b := y / 4294967296) (by omega) (by omega)
    have bb := Lib.half_mul_le (a := m / 4294967296) (b := y % 4294967296) (by omega) (by omega)
    have bc := Lib.half_mul_le (a := m % 4294967296) (b := y / 4294967296) (by omega) (by omega)
    have bd := Lib.half_mul_le (a := m % 4294967296) (b := y % 4294967296) (by omega) (by omega)
    have ba' : m / 4294967296 * (y / 4294967296) < 18446744073709551616 := by omega
    have bb' : m / 4294967296 * (y % 4294967296) < 18446744073709551616 := by omega
    have bc' : m % 4294967296 * (y / 4294967296) < 18446744073709551616 := by omega
    have bd' : m % 4294967296 * (y % 4294967296) < 18446744073709551616 := by omega
    have b1 : m % 4294967296 * (y % 4294967296) / 4294967296 + m / 4294967296 * (y % 4294967296) % 4294967296 < 18446744073709551616 := by omega
    have b2 : m % 4294967296 * (y % 4294967296) / 4294967296 + m / 4294967296 * (y % 4294967296) % 4294967296 + m % 4294967296 * (y / 4294967296) % 4294967296 < 18446744073709551616 := by omega
    have b3 : m / 4294967296 * (y / 4294967296) + m / 4294967296 * (y % 4294967296) / 4294967296 < 18446744073709551616 := by omega
    have b4 : m / 4294967296 * (y / 4294967296) + m / 4294967296 * (y % 4294967296) / 4294967296 + m % 4294967296 * (y / 4294967296) / 4294967296 < 18446744073709551616 := by omega
    have b5 : m / 4294967296 * (y / 4294967296) + m / 4294967296 * (y % 4294967296) / 4294967296 + m % 4294967296 * (y / 4294967296) / 4294967296 + (m % 4294967296 * (y % 4294967296) / 4294967296 + m / 4294967296 * (y % 4294967296) % 4294967296 + m % 4294967296 * (y / 4294967296) % 4294967296) / 4294967296 < 18446744073709551616 := by omega
    simp only [wrapN y hy, maskN m hlt, maskN y hy, divN, mulN, addN, wrapN _ ba', wrapN _ bb', wrapN _ bc', wrapN _ bd', maskN _ bb', maskN _ bc', wrapN _ b1, wrapN _ b2, wrapN _ b3, wrapN _ b4, wrapN _ b5]
    rw [hhi, hw]

theorem w64 {x : Int} (h0 : -9223372036854775808 ≤ x) (h1 : x < 9223372036854775808) : wrap64 x = x := by unfold wrap64; omega
theorem rd_at (pre : List Int) (y : Int) (suf : List Int) : rd (pre ++ y :: suf) (pre.length : Int) = y := by simp [rd]
theorem split_next (pre : List Int) (y : Int) (suf : List Int) : pre ++ y :: suf = (pre ++ [y]) ++ suf := by simp
theorem len_next (pre : List Int) (y : Int) : ((pre ++ [y]).length : Int) = (pre.length : Int) + 1 := by simp
/-- What both checks of weights tell. -/
def wf : Int → List Int → Int
  | acc, [] => if acc = 0 then 11 else 0
  | acc, y :: ys => if y < 0 then 1 else if y > 1048576 then 1 else wf (acc + y) ys
def sum : List Int → Int
  | [] => 0
  | y :: ys => y + sum ys

theorem weights_l0 (suf : List Int) : ∀ (pre : List Int) (acc : Int), pre.length + suf.length ≤ 40 → 0 ≤ acc → acc ≤ pre.length * 1048576 →
    Ev (fun k => rnd_Weights.l0 k acc (pre ++ suf) ((pre ++ suf).length : Int) (pre.length : Int)) (wf acc suf) := by
  induction suf with
  | nil =>
    intro pre acc hl h0 h1
    refine ⟨1, fun k hk => ?_⟩
    obtain ⟨k, rfl⟩ : ∃ m, k = m + 1 := ⟨k - 1, by omega⟩
    simp only [rnd_Weights.l0, wf]
    rw [if_neg (by simp)]
    split <;> rfl
  | cons y ys ih =>
    intro pre acc hl h0 h1
    have hlt : (pre.length : Int) < ((pre ++ y :: ys).length : Int) := by simp; omega
    have hl' : pre.length + (ys.length + 1) ≤ 40 := hl
    by_cases c0 : y < 0
    · refine ⟨1, fun k hk => ?_⟩
      obtain ⟨k, rfl⟩ : ∃ m, k = m + 1 := ⟨k - 1, by omega⟩
      simp only [rnd_Weights.l0, wf, rd_at]
      rw [if_pos hlt, if_pos (by omega), if_pos hlt, if_pos c0, if_pos c0]
    · by_cases c1 : y > 1048576
      · refine ⟨1, fun k hk => ?_⟩
        obtain ⟨k, rfl⟩ : ∃ m, k = m + 1 := ⟨k - 1, by omega⟩
        simp only [rnd_Weights.l0, wf, rd_at]
        rw [if_pos hlt, if_pos (by omega), if_pos hlt, if_neg c0, if_pos c1, if_neg c0, if_pos c1]
      · have h := ih (pre ++ [y]) (acc + y) (by simp; omega) (by omega) (by simp; omega)
        rw [show wf acc (y :: ys) = wf (acc + y) ys from by simp only [wf]; rw [if_neg c0, if_neg c1]]
        refine Ev.step (fun k => ?_) h
        simp only [rnd_Weights.l0, rd_at]
        rw [if_pos hlt, if_pos (by omega), if_pos hlt, if_neg c0, if_neg c1, w64 (by omega) (by omega), w64 (by omega) (by omega), len_next]
        simp

theorem weights (l : List Int) (h : l.length ≤ 40) : Ev (fun k => rnd_Weights.f k l) (wf 0 l) := by
  have := weights_l0 l [] 0 (by simpa using h) (by omega) (by simp)
  refine Ev.congr (fun k => ?_) this
  unfold rnd_Weights.f
  rw [if_neg (by omega)]
  rfl
theorem weights_large (l : List Int) (h : ¬ l.length ≤ 40) : Ev (fun k => rnd_Weights.f k l) 2 := by
  refine Ev.congr (fun k => ?_) (Ev.now 2)
  unfold rnd_Weights.f
  rw [if_pos (by omega)]

theorem fault_l0 (suf : List Int) : ∀ (pre : List Int) (acc : Int), pre.length + suf.length ≤ 40 → 0 ≤ acc → acc ≤ pre.length * 1048576 →
    Ev (fun k => mootref5_WeightsFault.l0 k (pre ++ suf) acc (pre ++ suf) ((pre ++ suf).length : Int) (pre.length : Int)) (wf acc suf) := by
  induction suf with
  | nil =>
    intro pre acc hl h0 h1
    refine ⟨1, fun k hk => ?_⟩
    obtain ⟨k, rfl⟩ : ∃ m, k = m + 1 := ⟨k - 1, by omega⟩
    simp only [mootref5_WeightsFault.l0, wf]
    rw [if_neg (by simp)]
    split <;> rfl
  | cons y ys ih =>
    intro pre acc hl h0 h1
    have hlt : (pre.length : Int) < ((pre ++ y :: ys).length : Int) := by simp; omega
    have hl' : pre.length + (ys.length + 1) ≤ 40 := hl
    have hs : ¬ ((pre ++ y :: ys).length : Int) > 40 := by simp; omega
    by_cases c0 : y < 0
    · refine ⟨1, fun k hk => ?_⟩
      obtain ⟨k, rfl⟩ : ∃ m, k = m + 1 := ⟨k - 1, by omega⟩
      simp only [mootref5_WeightsFault.l0, wf, rd_at]
      rw [if_pos hlt, if_pos (by omega), if_pos hlt, if_neg hs, if_pos c0, if_pos c0]
    · by_cases c1 : y > 1048576
      · refine ⟨1, fun k hk => ?_⟩
        obtain ⟨k, rfl⟩ : ∃ m, k = m + 1 := ⟨k - 1, by omega⟩
        simp only [mootref5_WeightsFault.l0, wf, rd_at]
        rw [if_pos hlt, if_pos (by omega), if_pos hlt, if_neg hs, if_neg c0, if_pos c1, if_neg c0, if_pos c1]
      · have h := ih (pre ++ [y]) (acc + y) (by simp; omega) (by omega) (by simp; omega)
        rw [show wf acc (y :: ys) = wf (acc + y) ys from by simp only [wf]; rw [if_neg c0, if_neg c1]]
        refine Ev.step (fun k => ?_) h
        simp only [mootref5_WeightsFault.l0, rd_at]
        rw [if_pos hlt, if_pos (by omega), if_pos hlt, if_neg hs, if_neg c0, if_neg c1, if_pos hlt, w64 (by omega) (by omega), w64 (by omega) (by omega), len_next]
        simp

theorem fault (l : List Int) (h : l.length ≤ 40) : Ev (fun k => mootref5_WeightsFault.f k l) (wf 0 l) :=
  fault_l0 l [] 0 (by simpa using h) (by omega) (by simp)
theorem fault_large (l : List Int) (h : ¬ l.length ≤ 40) : Ev (fun k => mootref5_WeightsFault.f k l) 2 := by
  refine ⟨1, fun k hk => ?_⟩
  obtain ⟨k, rfl⟩ : ∃ m, k = m + 1 := ⟨k - 1, by omega⟩
  unfold mootref5_WeightsFault.f
  simp only [mootref5_WeightsFault.l0]
  rw [if_pos (by omega), if_pos (by omega), if_pos (by omega), if_pos (by omega)]

theorem wf_cases (acc : Int) (l : List Int) : wf acc l = 0 ∨ wf acc l = 1 ∨ wf acc l = 11 := by
  induction l generalizing acc with
  | nil => simp only [wf]; split <;> simp
  | cons y ys ih =>
    simp only [wf]
    split
    · simp
    · split
      · simp
      · exact ih _
theorem wf_ok (acc : Int) (l : List Int) (h : wf acc l = 0) : (∀ y ∈ l, 0 ≤ y ∧ y ≤ 1048576) ∧ acc + sum l ≠ 0 := by
  induction l generalizing acc with
  | nil =>
    simp only [wf] at h
    refine ⟨by simp, ?_⟩
    intro h0
    simp only [sum] at h0
    rw [if_pos (by omega)] at h
    omega
  | cons y ys ih =>
    simp only [wf] at h
    by_cases c0 : y < 0
    · rw [if_pos c0] at h; omega
    · by_cases c1 : y > 1048576
      · rw [if_neg c0, if_pos c1] at h; omega
      · rw [if_neg c0, if_neg c1] at h
        obtain ⟨h1, h2⟩ := ih _ h
        refine ⟨?_, by simp only [sum]; omega⟩
        intro z hz
        rcases List.mem_cons.1 hz with rfl | hz
        · omega
        · exact h1 z hz
theorem sum_bd (l : List Int) (h : ∀ y ∈ l, 0 ≤ y ∧ y ≤ 1048576) : 0 ≤ sum l ∧ sum l ≤ l.length * 1048576 := by
  induction l with
  | nil => simp [sum]
  | cons y ys ih =>
    have h1 := h y (by simp)
    have h2 := ih (fun z hz => h z (by simp [hz]))
    simp only [sum, List.length_cons]
    omega

/-- The index that is picked: the least one up to which the weights are more than x. -/
def pick : Int → Nat → List Int → Nat
  | _, i, [] => i
  | x, i, y :: ys => if x < y then i else pick (x - y) (i + 1) ys

theorem pick_l1 (s : Int) (suf : List Int) : ∀ (pre : List Int) (x : Int), pre.length + suf.length ≤ 40 → (∀ y ∈ suf, 0 ≤ y ∧ y ≤ 1048576) → 0 ≤ x → x < sum suf →
    Ev (fun k => rnd_Pick.l1 k s x (pre ++ suf) ((pre ++ suf).length : Int) (pre.length : Int)) ((pick x pre.length suf : Nat), s, 0) := by
  induction suf with
  | nil => intro pre x hl hy h0 h1; simp only [sum] at h1; omega
  | cons y ys ih =>
    intro pre x hl hy h0 h1
    have hlt : (pre.length : Int) < ((pre ++ y :: ys).length : Int) := by simp; omega
    have hl' : pre.length + (ys.length + 1) ≤ 40 := hl
    have hy0 := hy y (by simp)
    have hb := sum_bd (y :: ys) hy
    simp only [List.length_cons] at hb
    by_cases c : x < y
    · refine ⟨1, fun k hk => ?_⟩
      obtain ⟨k, rfl⟩ : ∃ m, k = m + 1 := ⟨k - 1, by omega⟩
      simp only [rnd_Pick.l1, pick, rd_at]
      rw [if_pos hlt, if_pos (by omega), if_pos hlt, if_pos c, if_pos c]
    · simp only [sum] at h1
      have h := ih (pre ++ [y]) (x - y) (by simp; omega) (fun z hz => hy z (by simp [hz])) (by omega) (by omega)
      rw [show pick x pre.length (y :: ys) = pick (x - y) (pre ++ [y]).length ys from by simp only [pick]; rw [if_neg c]; simp]
      simp only [sum] at hb
      refine Ev.step (fun k => ?_) h
      simp only [rnd_Pick.l1, rd_at]
      rw [if_pos hlt, if_pos (by omega), if_pos hlt, if_neg c, w64 (by omega) (by omega), w64 (by omega) (by omega), len_next]
      simp

theorem pick_l0 (s : Int) (xs : List Int) (r : Int × Int × Int) (suf : List Int) : ∀ (pre : List Int) (acc : Int), pre.length + suf.length ≤ 40 → (∀ y ∈ suf, 0 ≤ y ∧ y ≤ 1048576) → 0 ≤ acc → acc ≤ pre.length * 1048576 →
    Ev (fun k => (rnd_Below.f s (acc + sum suf)).bind fun bt => rnd_Pick.l1 k bt.2 bt.1 xs (xs.length : Int) 0) r →
    Ev (fun k => rnd_Pick.l0 k s xs acc (pre ++ suf) ((pre ++ suf).length : Int) (pre.length : Int)) r := by
  induction suf with
  | nil =>
    intro pre acc hl hy h0 h1 H
    refine Ev.step (fun k => ?_) H
    simp only [rnd_Pick.l0, sum]
    rw [if_neg (by simp)]
    simp
  | cons y ys ih =>
    intro pre acc hl hy h0 h1 H
    have hlt : (pre.length : Int) < ((pre ++ y :: ys).length : Int) := by simp; omega
    have hl' : pre.length + (ys.length + 1) ≤ 40 := hl
    have hy0 := hy y (by simp)
    have h := ih (pre ++ [y]) (acc + y) (by simp; omega) (fun z hz => hy z (by simp [hz])) (by omega) (by simp; omega) (by simpa [sum, Int.add_assoc] using H)
    refine Ev.step (fun k => ?_) h
    simp only [rnd_Pick.l0, rd_at]
    rw [if_pos hlt, if_pos (by omega), if_pos hlt, w64 (by omega) (by omega), w64 (by omega) (by omega), len_next]
    simp

/-- The indexes of what has a weight. -/
def idx : Nat → List Int → List Int
  | _, [] => []
  | i, y :: ys => if y < 1 then idx (i + 1) ys else (i : Int) :: idx (i + 1) ys
theorem idx_len (l : List Int) : ∀ i, (idx i l).length ≤ l.length := by
  induction l with
  | nil => intro i; simp [idx]
  | cons y ys ih =>
    intro i
    simp only [idx]
    split
    · have := ih (i + 1); simp; omega
    · have := ih (i + 1); simp; omega

theorem ref_l3 (xs : List Int) (s : Int) (suf : List Int) : ∀ (pre ipre : List Int) (x at_ : Int), xs = pre ++ suf → pre.length + suf.length ≤ 40 → ipre.length ≤ pre.length → (∀ y ∈ suf, 0 ≤ y ∧ y ≤ 1048576) → 0 ≤ at_ → at_ ≤ pre.length * 1048576 → at_ ≤ x → x < at_ + sum suf →
    Ev (fun k => mootref5_Rnd_Pick.l3 k xs x at_ (ipre ++ idx pre.length suf) ((ipre ++ idx pre.length suf).length : Int) (ipre.length : Int) s) ((pick (x - at_) pre.length suf : Nat), s) := by
  induction suf with
  | nil => intro pre ipre x at_ hx hl hi hy h0 h1 h2 h3; simp only [sum] at h3; omega
  | cons y ys ih =>
    intro pre ipre x at_ hx hl hi hy h0 h1 h2 h3
    have hl' : pre.length + (ys.length + 1) ≤ 40 := hl
    have hy0 := hy y (by simp)
    simp only [sum] at h3
    by_cases c : y < 1
    · have e0 : y = 0 := by omega
      subst e0
      have h := ih (pre ++ [0]) ipre x at_ (by rw [hx]; simp) (by simp; omega) (by simp; omega) (fun z hz => hy z (by simp [hz])) h0 (by simp; omega) h2 (by omega)
      rw [show idx pre.length (0 :: ys) = idx (pre ++ [0]).length ys from by simp [idx],
        show pick (x - at_) pre.length (0 :: ys) = pick (x - at_) (pre ++ [0]).length ys from by simp only [pick]; rw [if_neg (by omega)]; simp]
      exact h
    · have hix : idx pre.length (y :: ys) = (pre.length : Int) :: idx (pre.length + 1) ys := by simp only [idx]; rw [if_neg c]
      rw [hix]
      have hlt : (ipre.length : Int) < ((ipre ++ (pre.length : Int) :: idx (pre.length + 1) ys).length : Int) := by simp; omega
      have hxl : (pre.length : Int) < (xs.length : Int) := by rw [hx]; simp; omega
      have hrd : rd xs (pre.length : Int) = y := by rw [hx]; exact rd_at _ _ _
      have hil := idx_len ys (pre.length + 1)
      by_cases d : x < at_ + y
      · refine ⟨1, fun k hk => ?_⟩
        obtain ⟨k, rfl⟩ : ∃ m, k = m + 1 := ⟨k - 1, by omega⟩
        simp only [mootref5_Rnd_Pick.l3, rd_at, pick]
        rw [if_pos hlt, if_pos (by omega), if_pos hlt, if_pos (by omega), if_pos hxl, hrd, w64 (by omega) (by omega), if_pos d, if_pos (by omega)]
      · have h := ih (pre ++ [y]) (ipre ++ [(pre.length : Int)]) x (at_ + y) (by rw [hx]; simp) (by simp; omega) (by simp; omega) (fun z hz => hy z (by simp [hz])) (by omega) (by simp; omega) (by omega) (by omega)
        rw [show pick (x - at_) pre.length (y :: ys) = pick (x - (at_ + y)) (pre ++ [y]).length ys from by simp only [pick]; rw [if_neg (by omega), show x - at_ - y = x - (at_ + y) from by omega]; simp]
        refine Ev.step (fun k => ?_) h
        simp only [mootref5_Rnd_Pick.l3, rd_at]
        rw [if_pos hlt, if_pos (by omega), if_pos hlt, if_pos (by omega), if_pos hxl, hrd, w64 (by omega) (by omega), if_neg d, w64 (by omega) (by omega), len_next]
        simp

theorem ref_l2 (xs all : List Int) (s : Int) (r : Int × Int) (suf : List Int) : ∀ (pre ipre : List Int) (acc : Int), xs = pre ++ suf → pre.length + suf.length ≤ 40 → ipre.length ≤ pre.length → (∀ y ∈ suf, 0 ≤ y ∧ y ≤ 1048576) → 0 ≤ acc → acc ≤ pre.length * 1048576 →
    Ev (fun k => (mootref5_Rnd_Below.f s (acc + sum suf)).bind fun bt => mootref5_Rnd_Pick.l3 k xs bt.1 0 all (all.length : Int) 0 bt.2) r →
    Ev (fun k => mootref5_Rnd_Pick.l2 k xs all acc (ipre ++ idx pre.length suf) ((ipre ++ idx pre.length suf).length : Int) (ipre.length : Int) s) r := by
  induction suf with
  | nil =>
    intro pre ipre acc hx hl hi hy h0 h1 H
    rw [show idx pre.length [] = [] from rfl]
    refine Ev.step (fun k => ?_) H
    simp only [mootref5_Rnd_Pick.l2, sum]
    rw [if_neg (by simp)]
    simp
  | cons y ys ih =>
    intro pre ipre acc hx hl hi hy h0 h1 H
    have hl' : pre.length + (ys.length + 1) ≤ 40 := hl
    have hy0 := hy y (by simp)
    by_cases c : y < 1
    · have e0 : y = 0 := by omega
      subst e0
      have h := ih (pre ++ [0]) ipre acc (by rw [hx]; simp) (by simp; omega) (by simp; omega) (fun z hz => hy z (by simp [hz])) h0 (by simp; omega) (by simpa [sum] using H)
      rw [show idx pre.length (0 :: ys) = idx (pre ++ [0]).length ys from by simp [idx]]
      exact h
    · have hix : idx pre.length (y :: ys) = (pre.length : Int) :: idx (pre.length + 1) ys := by simp only [idx]; rw [if_neg c]
      rw [hix]
      have hlt : (ipre.length : Int) < ((ipre ++ (pre.length : Int) :: idx (pre.length + 1) ys).length : Int) := by simp; omega
      have hxl : (pre.length : Int) < (xs.length : Int) := by rw [hx]; simp; omega
      have hrd : rd xs (pre.length : Int) = y := by rw [hx]; exact rd_at _ _ _
      have h := ih (pre ++ [y]) (ipre ++ [(pre.length : Int)]) (acc + y) (by rw [hx]; simp) (by simp; omega) (by simp; omega) (fun z hz => hy z (by simp [hz])) (by omega) (by simp; omega) (by simpa [sum, Int.add_assoc] using H)
      refine Ev.step (fun k => ?_) h
      simp only [mootref5_Rnd_Pick.l2, rd_at]
      rw [if_pos hlt, if_pos (by omega), if_pos hlt, if_pos (by omega), if_pos hxl, hrd, w64 (by omega) (by omega), w64 (by omega) (by omega), len_next]
      simp

theorem ref_l0 (xs : List Int) (s : Int) (r : Int × Int) (suf : List Int) : ∀ (pre ipre : List Int), pre.length + suf.length ≤ 40 → ipre.length ≤ pre.length → (∀ y ∈ suf, 0 ≤ y ∧ y ≤ 1048576) →
    Ev (fun k => mootref5_Rnd_Pick.l2 k xs (ipre ++ idx pre.length suf) 0 (ipre ++ idx pre.length suf) ((ipre ++ idx pre.length suf).length : Int) 0 s) r →
    Ev (fun k => mootref5_Rnd_Pick.l0 k xs ipre (pre ++ suf) ((pre ++ suf).length : Int) (pre.length : Int) s) r := by
  induction suf with
  | nil =>
    intro pre ipre hl hi hy H
    refine Ev.step (fun k => ?_) H
    simp only [mootref5_Rnd_Pick.l0, idx]
    rw [if_neg (by simp)]
    simp
  | cons y ys ih =>
    intro pre ipre hl hi hy H
    have hl' : pre.length + (ys.length + 1) ≤ 40 := hl
    have hy0 := hy y (by simp)
    have hlt : (pre.length : Int) < ((pre ++ y :: ys).length : Int) := by simp; omega
    by_cases c : y < 1
    · have e0 : y = 0 := by omega
      subst e0
      have h := ih (pre ++ [0]) ipre (by simp; omega) (by simp; omega) (fun z hz => hy z (by simp [hz])) (by
        rw [show idx pre.length (0 :: ys) = idx (pre ++ [0]).length ys from by simp [idx]] at H
        exact H)
      refine Ev.step (fun k => ?_) (Ev.step (fun k => ?_) h) (f := fun k => mootref5_Rnd_Pick.l1 k xs ipre (pre.length : Int) (pre ++ 0 :: ys) ((pre ++ 0 :: ys).length : Int) (pre.length : Int) (mn 0 1) 0 s)
      · simp only [mootref5_Rnd_Pick.l0, rd_at]
        rw [if_pos hlt, if_pos (by omega), if_pos hlt]
      · simp only [mootref5_Rnd_Pick.l1]
        rw [if_neg (by decide), w64 (by omega) (by omega), len_next]
        simp
    · have hix : idx pre.length (y :: ys) = (pre.length : Int) :: idx (pre.length + 1) ys := by simp only [idx]; rw [if_neg c]
      have h := ih (pre ++ [y]) (ipre ++ [(pre.length : Int)]) (by simp; omega) (by simp; omega) (fun z hz => hy z (by simp [hz])) (by
        rw [hix] at H
        simpa using H)
      have hm : mn y 1 = 1 := by unfold mn; omega
      refine Ev.step (fun k => ?_) (Ev.step (fun k => ?_) (Ev.step (fun k => ?_) h)
        (f := fun k => mootref5_Rnd_Pick.l1 k xs (ipre ++ [(pre.length : Int)]) (pre.length : Int) (pre ++ y :: ys) ((pre ++ y :: ys).length : Int) (pre.length : Int) 1 1 s))
        (f := fun k => mootref5_Rnd_Pick.l1 k xs ipre (pre.length : Int) (pre ++ y :: ys) ((pre ++ y :: ys).length : Int) (pre.length : Int) (mn y 1) 0 s)
      · simp only [mootref5_Rnd_Pick.l0, rd_at]
        rw [if_pos hlt, if_pos (by omega), if_pos hlt]
      · simp only [mootref5_Rnd_Pick.l1, hm]
        rw [if_pos (by omega), if_pos (by omega), show wrap64 (0 + 1) = 1 from w64 (by omega) (by omega)]
      · simp only [mootref5_Rnd_Pick.l1]
        rw [if_neg (by omega), w64 (by omega) (by omega), len_next]
        simp

theorem RndPicks : mootlaw5_RndPicks.Pure := by
  intro s l hs hm hy hw
  have z : Ev (fun k => rnd_Weights.f k [0]) 11 := weights [0] (by simp)
  by_cases hl : l.length ≤ 40
  · have e1 := weights l hl
    have e2 := fault l hl
    by_cases h0 : wf 0 l = 0
    · obtain ⟨hr, hne⟩ := wf_ok 0 l h0
      have hb := sum_bd l hr
      rw [h0] at e1 e2
      obtain ⟨x, b1, b2, hx⟩ := below_is s (sum l) (by omega) (by omega)
      have p1 : Ev (fun k => rnd_Pick.f k s l) ((pick x 0 l : Nat), IntKind.u64.wrap (s + 11400714819323198485), 0) := by
        unfold rnd_Pick.f
        refine Ev.bind e1 ?_
        refine Ev.congr (fun k => if_pos rfl) ?_
        refine pick_l0 s l _ l [] 0 (by simpa using hl) hr (by omega) (by simp) ?_
        rw [show (0 : Int) + sum l = sum l from by omega, b1]
        simp only [Option.bind_some]
        exact pick_l1 _ l [] x (by simpa using hl) hr (by omega) hx
      have p2 : Ev (fun k => mootref5_Rnd_Pick.f k s l) ((pick x 0 l : Nat), IntKind.u64.wrap (s + 11400714819323198485)) := by
        unfold mootref5_Rnd_Pick.f
        refine ref_l0 l s _ l [] [] (by simpa using hl) (by simp) hr ?_
        refine ref_l2 l _ s _ l [] [] 0 rfl (by simpa using hl) (by simp) hr (by omega) (by simp) ?_
        rw [show (0 : Int) + sum l = sum l from by omega, b2]
        simp only [Option.bind_some]
        have := ref_l3 l (IntKind.u64.wrap (s + 11400714819323198485)) l [] [] x 0 rfl (by simpa using hl) (by simp) hr (by omega) (by simp) (by omega) (by omega)
        simpa using this
      obtain ⟨k1, q1⟩ := e1
      obtain ⟨k2, q2⟩ := e2
      obtain ⟨k3, q3⟩ := p1
      obtain ⟨k4, q4⟩ := p2
      obtain ⟨k5, q5⟩ := z
      refine ⟨k1 + k2 + k3 + k4 + k5, _, _, 0, q3 _ (by omega), q2 _ (by omega), q5 _ (by omega), q1 _ (by omega), ?_, ?_⟩
      · intro h; exact absurd rfl h
      · intro _; exact q4 _ (by omega)
    · have p1 : Ev (fun k => rnd_Pick.f k s l) (0, 0, wf 0 l) := by
        unfold rnd_Pick.f
        refine Ev.bind e1 ?_
        exact Ev.congr (fun k => if_neg h0) (Ev.now _)
      obtain ⟨k1, q1⟩ := e1
      obtain ⟨k2, q2⟩ := e2
      obtain ⟨k3, q3⟩ := p1
      obtain ⟨k5, q5⟩ := z
      refine ⟨k1 + k2 + k3 + k5, 0, 0, wf 0 l, q3 _ (by omega), q2 _ (by omega), q5 _ (by omega), q1 _ (by omega), fun _ => ⟨rfl, rfl⟩, fun h => absurd h h0⟩
  · have e1 := weights_large l hl
    have e2 := fault_large l hl
    have p1 : Ev (fun k => rnd_Pick.f k s l) (0, 0, 2) := by
      unfold rnd_Pick.f
      refine Ev.bind e1 ?_
      exact Ev.congr (fun k => if_neg (by decide)) (Ev.now _)
    obtain ⟨k1, q1⟩ := e1
    obtain ⟨k2, q2⟩ := e2
    obtain ⟨k3, q3⟩ := p1
    obtain ⟨k5, q5⟩ := z
    exact ⟨k1 + k2 + k3 + k5, 0, 0, 2, q3 _ (by omega), q2 _ (by omega), q5 _ (by omega), q1 _ (by omega), fun _ => ⟨rfl, rfl⟩, fun h => absurd h (by decide)⟩
end Go.Proofs.Ytelahnbamemdeaa.Pure
