/- A permutation that Mix makes has each number below n once; one more number is drawn for a longer one. -/
import Derived.Test.YtfnnjlcdjbablaaPRndMixesx1
import Derived.Lib.Mul64
import Derived.OpenShut
import Derived.Laws.Bits64b
namespace Go.Proofs.Ytfnnjlcdjbablaa.Pure
open Go.RowKit Go.Proofs.Ytfnnjlcdjbablaa.PRndMixes Go.Proofs.YtfnnjlcdjbablaaW.PrintWords Go.Proofs.YtfnnjlcdjbablaaW.PrintLast Go.Proofs.YtfnnjlcdjbablaaW.PrintMore
theorem maskN (a : Nat) (ha : a < 18446744073709551616) : bits .and .u64 (a : Int) 4294967295 = ((a % 4294967296 : Nat) : Int) := by
  have h := bits_and_u64_nat a 4294967295 ha (by omega)
  have e : a &&& 4294967295 = a % 4294967296 := Nat.and_two_pow_sub_one_eq_mod a 32
  rw [e] at h
  exact h
theorem divN (a : Nat) : (a : Int) / 4294967296 = ((a / 4294967296 : Nat) : Int) := by omega
theorem mulN (a b : Nat) : (a : Int) * (b : Int) = ((a * b : Nat) : Int) := (Int.natCast_mul a b).symm
theorem addN (a b : Nat) : (a : Int) + (b : Int) = ((a + b : Nat) : Int) := (Int.natCast_add a b).symm
theorem wrapN (a : Nat) (ha : a < 18446744073709551616) : IntKind.u64.wrap (a : Int) = (a : Int) := by rw [IntKind.wrap_u64]; omega
theorem wrapM (a : Nat) : IntKind.u64.wrap (a : Int) = ((a % 18446744073709551616 : Nat) : Int) := by rw [IntKind.wrap_u64]; omega

theorem mul64 (x y : Nat) (hx : x < 18446744073709551616) (hy : y < 18446744073709551616) :
    bits_Mul64.f x y = some (((x * y / 18446744073709551616 : Nat) : Int), ((x * y % 18446744073709551616 : Nat) : Int)) := by
  obtain ⟨bd, bt, bw, hhi⟩ := Lib.mul64_hi x y hx hy
  have ba := Lib.half_mul_le (a := x / 4294967296) (b := y / 4294967296) (by omega) (by omega)
  have bb := Lib.half_mul_le (a := x / 4294967296) (b := y % 4294967296) (by omega) (by omega)
  have bc := Lib.half_mul_le (a := x % 4294967296) (b := y / 4294967296) (by omega) (by omega)
  have ba' : x / 4294967296 * (y / 4294967296) < 18446744073709551616 := by omega
  have bb' : x / 4294967296 * (y % 4294967296) < 18446744073709551616 := by omega
  have bc' : x % 4294967296 * (y / 4294967296) < 18446744073709551616 := by omega
  have bh1 : x / 4294967296 * (y / 4294967296) + (x / 4294967296 * (y % 4294967296) + x % 4294967296 * (y % 4294967296) / 4294967296) / 4294967296 < 18446744073709551616 := by omega
  have bh : x / 4294967296 * (y / 4294967296) + (x / 4294967296 * (y % 4294967296) + x % 4294967296 * (y % 4294967296) / 4294967296) / 4294967296 + ((x / 4294967296 * (y % 4294967296) + x % 4294967296 * (y % 4294967296) / 4294967296) % 4294967296 + x % 4294967296 * (y / 4294967296)) / 4294967296 < 18446744073709551616 := by omega
  unfold bits_Mul64.f
  simp only [maskN x hx, maskN y hy, divN, mulN, addN, wrapN _ bd, wrapN _ bb', wrapN _ bt, maskN _ bt, wrapN _ bc', wrapN _ bw, wrapN _ ba', wrapN _ bh1, wrapN _ bh, wrapM (x * y)]
  rw [hhi]

theorem u64_range (n : Int) : 0 ≤ IntKind.u64.wrap n ∧ IntKind.u64.wrap n < 18446744073709551616 := by rw [IntKind.wrap_u64]; omega
theorem xor_range (a b : Int) : 0 ≤ Go.bits .xor .u64 a b ∧ Go.bits .xor .u64 a b < 18446744073709551616 := by unfold Go.bits; exact u64_range _
theorem u64_id {n : Int} (h0 : 0 ≤ n) (h : n < 18446744073709551616) : IntKind.u64.wrap n = n := by rw [IntKind.wrap_u64]; omega

theorem mix_range (a : Int) : ∃ m : Nat, rnd_mix.f a = some (m : Int) ∧ m < 18446744073709551616 := by
  unfold rnd_mix.f
  generalize IntKind.u64.wrap _ = z
  have h := xor_range z (z / 2147483648)
  refine ⟨(Go.bits .xor .u64 z (z / 2147483648)).toNat, ?_, ?_⟩
  · rw [Int.toNat_of_nonneg h.1]
  · omega

theorem next_range (s : Int) : ∃ m : Nat, rnd_Next.f s = some ((m : Int), IntKind.u64.wrap (s + 11400714819323198485)) ∧ m < 18446744073709551616 := by
  obtain ⟨m, hm, h⟩ := mix_range (IntKind.u64.wrap (s + 11400714819323198485))
  refine ⟨m, ?_, h⟩
  unfold rnd_Next.f
  rw [hm]; rfl

theorem hi_lt (x n : Nat) (hx : x < 18446744073709551616) (hn : 1 ≤ n) : x * n / 18446744073709551616 < n := by
  apply Nat.div_lt_of_lt_mul
  exact Nat.mul_lt_mul_of_pos_right hx (by omega)

theorem below_is (s n : Int) (h : 1 ≤ n) (hn : n ≤ 9223372036854775807) : ∃ k : Nat, rnd_Below.f s n = some ((k : Int), IntKind.u64.wrap (s + 11400714819323198485)) ∧ (k : Int) < n := by
  obtain ⟨m, hm, hlt⟩ := next_range s
  obtain ⟨y, rfl⟩ := Int.eq_ofNat_of_zero_le (show 0 ≤ n by omega)
  have hy : y < 18446744073709551616 := by omega
  have hb := hi_lt m y hlt (by omega)
  have hw : wrap64 ((m * y / 18446744073709551616 : Nat) : Int) = ((m * y / 18446744073709551616 : Nat) : Int) := by unfold wrap64; omega
  refine ⟨m * y / 18446744073709551616, ?_, by omega⟩
  unfold rnd_Below.f
  rw [if_neg (by omega), hm]
  simp only [Option.bind_some]
  rw [show IntKind.u64.wrap (y : Int) = (y : Int) from wrapN y (by omega), mul64 m y hlt (by omega)]
  simp only [Option.bind_some]
  rw [hw]

theorem w64 {x : Int} (h0 : -9223372036854775808 ≤ x) (h1 : x < 9223372036854775808) : wrap64 x = x := by unfold wrap64; omega
theorem rd_at (pre : List Int) (y : Int) (suf : List Int) : rd (pre ++ y :: suf) (pre.length : Int) = y := by simp [rd]
theorem split_next (pre : List Int) (y : Int) (suf : List Int) : pre ++ y :: suf = (pre ++ [y]) ++ suf := by simp
theorem len_next (pre : List Int) (y : Int) : ((pre ++ [y]).length : Int) = (pre.length : Int) + 1 := by simp
theorem sorted_eq : ∀ (a b : List Int), a.Pairwise (fun x y => x ≤ y) → b.Pairwise (fun x y => x ≤ y) → a.Perm b → a = b
  | [], b, _, _, h => by rw [List.nil_perm.1 h]
  | x :: xs, [], _, _, h => by have := h.length_eq; simp at this
  | x :: xs, y :: ys, ha, hb, h => by
    have h1 := List.pairwise_cons.1 ha
    have h2 := List.pairwise_cons.1 hb
    have hx : x ∈ y :: ys := h.mem_iff.1 (by simp)
    have hy : y ∈ x :: xs := h.mem_iff.2 (by simp)
    have e : x = y := by
      rcases List.mem_cons.1 hx with e | hx
      · exact e
      · rcases List.mem_cons.1 hy with e | hy
        · exact e.symm
        · have := h1.1 y hy
          have := h2.1 x hx
          omega
    subst e
    rw [sorted_eq xs ys h1.2 h2.2 (List.perm_cons x |>.1 h)]

/-- The numbers below n. -/
def up (n : Nat) : List Int := (List.range n).map fun (k : Nat) => (k : Int)
theorem up_len (n : Nat) : (up n).length = n := by simp [up]
theorem up_sorted (n : Nat) : (up n).Pairwise (fun x y => x ≤ y) := by
  unfold up
  rw [List.pairwise_map]
  exact (List.pairwise_lt_range).imp (fun h => by omega)
theorem up_rd (n i : Nat) (h : i < n) : rd (up n) (i : Int) = (i : Int) := by simp [rd, up, h]
theorem up_succ (n : Nat) : up (n + 1) = up n ++ [(n : Int)] := by simp [up, List.range_succ]

theorem sort_up (l : List Int) (n : Nat) (h : l.Perm (up n)) : sortInts.s l = up n := by
  refine sorted_eq _ _ ?_ (up_sorted n) ((List.mergeSort_perm l _).trans h)
  have := List.pairwise_mergeSort (le := fun (x y : Int) => decide (x ≤ y)) (by intro a b c; simp; omega) (by intro a b; simp; omega) l
  exact this.imp (by simp)

theorem tmod60 (x : Int) : -60 < Int.tmod x 60 ∧ Int.tmod x 60 < 60 := by
  by_cases c : 0 ≤ x
  · rw [Int.tmod_eq_emod_of_nonneg c]; omega
  · obtain ⟨n, rfl⟩ : ∃ n : Int, x = -n := ⟨-x, by omega⟩
    rw [Int.neg_tmod, Int.tmod_eq_emod_of_nonneg (by omega)]; omega
theorem below60 (x : Int) : ∃ n : Nat, mootmake_Below.f x 60 = some (n : Int) ∧ n < 60 := by
  obtain ⟨h1, h2⟩ := tmod60 x
  unfold mootmake_Below.f
  rw [if_neg (by omega)]
  by_cases c : Int.tmod x 60 < 0
  · refine ⟨(Int.tmod x 60 + 60).toNat, ?_, by omega⟩
    rw [if_pos c, w64 (by omega) (by omega), Int.toNat_of_nonneg (by omega)]
  · refine ⟨(Int.tmod x 60).toNat, ?_, by omega⟩
    rw [if_neg c, Int.toNat_of_nonneg (by omega)]

/-- The state behind n numbers. -/
def far : Nat → Int → Int
  | 0, s => s
  | n + 1, s => far n (IntKind.u64.wrap (s + 11400714819323198485))
theorem far_next (n : Nat) : ∀ s, far (n + 1) s = IntKind.u64.wrap (far n s + 11400714819323198485) := by
  induction n with
  | zero => intro s; rfl
  | succ n ih => intro s; exact ih _

theorem mixes (n : Nat) (hn : n ≤ 1000) (d : Nat) : ∀ (i : Nat) (p : List Int) (s : Int), p.length = i → i + d = n → p.Perm (up i) →
    ∃ l, Ev (fun k => rnd_Mix.l0 k s p (n : Int) (i : Int)) (l, far d s) ∧ l.Perm (up n) := by
  induction d with
  | zero =>
    intro i p s hp hi hperm
    refine ⟨p, ⟨1, fun k hk => ?_⟩, by rw [show n = i by omega]; exact hperm⟩
    obtain ⟨k, rfl⟩ : ∃ m, k = m + 1 := ⟨k - 1, by omega⟩
    simp only [rnd_Mix.l0]
    rw [if_neg (by omega)]
    rfl
  | succ d ih =>
    intro i p s hp hi hperm
    obtain ⟨q, b1, hq⟩ := below_is s ((i : Int) + 1) (by omega) (by omega)
    have hqi : q ≤ i := by omega
    have hlen : (p ++ [(i : Int)]).length = i + 1 := by simp [hp]
    have hpp : (((p ++ [(i : Int)]).set i (rd (p ++ [(i : Int)]) (q : Int))).set q (rd (p ++ [(i : Int)]) (i : Int))).Perm (up (i + 1)) := by
      have h1 : rd (p ++ [(i : Int)]) (q : Int) = (p ++ [(i : Int)])[q]'(by omega) := by simp [rd, List.getElem?_eq_getElem (show q < (p ++ [(i : Int)]).length by omega)]
      have h2 : rd (p ++ [(i : Int)]) (i : Int) = (p ++ [(i : Int)])[i]'(by omega) := by simp [rd, List.getElem?_eq_getElem (show i < (p ++ [(i : Int)]).length by omega)]
      rw [h1, h2]
      refine (List.set_set_perm (by omega) (by omega)).trans ?_
      rw [up_succ]
      exact hperm.append_right _
    obtain ⟨l, e1, e2⟩ := ih (i + 1) _ (IntKind.u64.wrap (s + 11400714819323198485)) (by simp [hp]) (by omega) hpp
    refine ⟨l, Ev.step (fun k => ?_) e1, e2⟩
    simp only [rnd_Mix.l0]
    rw [if_pos (by omega), w64 (by omega) (by omega), b1]
    simp only [Option.bind_some]
    rw [if_pos (by omega), if_pos (by omega), if_pos (by simp; omega), if_pos (by omega), if_pos (by simp; omega)]
    simp only [Int.toNat_natCast]
    rfl
theorem mix_is (s : Int) (n : Nat) (hn : n ≤ 1000) : ∃ l, Ev (fun k => rnd_Mix.f k s (n : Int)) (l, far n s) ∧ l.Perm (up n) := by
  obtain ⟨l, e1, e2⟩ := mixes n hn n 0 [] s rfl (by omega) (by simp [up])
  refine ⟨l, Ev.congr (fun k => ?_) e1, e2⟩
  unfold rnd_Mix.f
  rw [show mn (n : Int) 1000 = (n : Int) from by unfold mn; omega]
  rfl

theorem rolled_true : mootkeep5_rolled.f = some true := by decide +kernel

theorem law_l0 (n : Nat) (hn : n ≤ 1000) (b : Int) (d : Nat) : ∀ i : Nat, i + d = n →
    Ev (fun k => mootkeep5_RndMixes.l0 k (n : Int) (up n) b b (up n) (n : Int) (i : Int)) true := by
  induction d with
  | zero =>
    intro i hi
    refine ⟨1, fun k hk => ?_⟩
    obtain ⟨k, rfl⟩ : ∃ m, k = m + 1 := ⟨k - 1, by omega⟩
    simp only [mootkeep5_RndMixes.l0]
    rw [if_neg (by omega), rolled_true]
    simp only [Option.bind_some]
    rw [if_pos trivial, up_len, if_pos rfl]
    simp
  | succ d ih =>
    intro i hi
    refine Ev.step (fun k => ?_) (ih (i + 1) (by omega))
    simp only [mootkeep5_RndMixes.l0]
    rw [up_len, if_pos (by omega), if_pos (by omega), if_pos (by omega), up_rd n i (by omega), if_pos rfl, w64 (by omega) (by omega)]
    rfl

theorem RndMixes : mootkeep5_RndMixes.Pure := by
  intro s n hs hn
  obtain ⟨m, hm, hlt⟩ := below60 n
  obtain ⟨l, e1, p1⟩ := mix_is s m (by omega)
  obtain ⟨l2, e2, p2⟩ := mix_is s (m + 1) (by omega)
  obtain ⟨x, hx, _⟩ := next_range (far m s)
  have hl : l.length = m := by rw [p1.length_eq, up_len]
  have hsort : sortInts.f l = some (up m) := by
    unfold sortInts.f
    rw [if_pos (by omega), sort_up l m p1]
  have e3 := law_l0 m (by omega) (IntKind.u64.wrap (far m s + 11400714819323198485)) m 0 (by omega)
  have : Ev (fun k => mootkeep5_RndMixes.f k s n) true := by
    unfold mootkeep5_RndMixes.f
    rw [hm]
    simp only [Option.bind_some]
    refine Ev.bind e1 ?_
    rw [w64 (by omega) (by omega), show (m : Int) + 1 = ((m + 1 : Nat) : Int) from by omega]
    refine Ev.bind e2 ?_
    simp only [hx, Option.bind_some, hsort, hl]
    rw [far_next]
    exact e3
  exact this.rounds
end Go.Proofs.Ytfnnjlcdjbablaa.Pure
