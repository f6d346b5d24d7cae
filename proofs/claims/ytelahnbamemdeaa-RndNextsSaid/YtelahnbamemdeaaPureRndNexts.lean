/- Next, Below, Split and Mix of the program answer as the reference's for all states, numbers and keys. -/
import Derived.Test.YtelahnbamemdeaaPRndNextsx2
import Derived.Lib.Mul64
import Derived.OpenShut
import Derived.Laws.Bits64b
namespace Go.Proofs.Ytelahnbamemdeaa.Pure
open Go.RowKit Go.Proofs.Ytelahnbamemdeaa.PRndNexts Go.Proofs.YtelahnbamemdeaaW.PrintWords Go.Proofs.YtelahnbamemdeaaW.PrintLast Go.Proofs.YtelahnbamemdeaaW.PrintMore
theorem maskN (a : Nat) (ha : a < 18446744073709551616) : bits .and .u64 (a : Int) 4294967295 = ((a % 4294967296 : Nat) : Int) := by
  have h := bits_and_u64_nat a 4294967295 ha (by omega)
  have e : a &&& 4294967295 = a % 4294967296 := Nat.and_two_pow_sub_one_eq_mod a 32
  rw [e] at h
  exact h
theorem divN (a : Nat) : (a : Int) / 4294967296 = ((a / 4294967296 : Nat) : Int) := by omega
theorem mulN (a b : Nat) : (a : Int) * (b : Int) = ((a * b : Nat) : Int) := (Int.natCast_mul a b).symm
theorem addN (a b : Nat) : (a : Int) + (b : Int) = ((a + b : Nat) : Int) := (Int.natCast_add a b).symm
theorem wrapN (a : Nat) (ha : a < 18446744073709551616) : IntKind.u64.wrap (a : Int) = (a : Int) := by rw [IntKind.wrap_u64]; omega
theorem wrapM (a : Nat) : IntKind.u64.wrap (a : Int) = ((a % 18446744073709551616 : Nat) : Int) := by rw [IntKind.wrap_u64]; omega

theorem mul64 (x y : Nat) (hx : x < 18446744073709551616) (hy : y < 18446744073709551616) :
    bits_Mul64.f x y = some (((x * y / 18446744073709551616 : Nat) : Int), ((x * y % 18446744073709551616 : Nat) : Int)) := by
  obtain ⟨bd, bt, bw, hhi⟩ := Lib.mul64_hi x y hx hy
  have ba := Lib.half_mul_le (a := x / 4294967296) (b := y / 4294967296) (by omega) (by omega)
  have bb := Lib.half_mul_le (a := x / 4294967296) (b := y % 4294967296) (by omega) (by omega)
  have bc := Lib.half_mul_le (a := x % 4294967296) (b := y / 4294967296) (by omega) (by omega)
  have ba' : x / 4294967296 * (y / 4294967296) < 18446744073709551616 := by omega
  have bb' : x / 4294967296 * (y % 4294967296) < 18446744073709551616 := by omega
  have bc' : x % 4294967296 * (y / 4294967296) < 18446744073709551616 := by omega
  have bh1 : x / 4294967296 * (y / 4294967296) + (x / 4294967296 * (y % 4294967296) + x % 4294967296 * (y % 4294967296) / 4294967296) / 4294967296 < 18446744073709551616 := by omega
  have bh : x / 4294967296 * (y / 4294967296) + (x / 4294967296 * (y % 4294967296) + x % 4294967296 * (y % 4294967296) / 4294967296) / 4294967296 + ((x / 4294967296 * (y % 4294967296) + x % 4294967296 * (y % 4294967296) / 4294967296) % 4294967296 + x % 4294967296 * (y / 4294967296)) / 4294967296 < 18446744073709551616 := by omega
  unfold bits_Mul64.f
  simp only [maskN x hx, maskN y hy, divN, mulN, addN, wrapN _ bd, wrapN _ bb', wrapN _ bt, maskN _ bt, wrapN _ bc', wrapN _ bw, wrapN _ ba', wrapN _ bh1, wrapN _ bh, wrapM (x * y)]
  rw [hhi]

theorem u64_range (n : Int) : 0 ≤ IntKind.u64.wrap n ∧ IntKind.u64.wrap n < 18446744073709551616 := by rw [IntKind.wrap_u64]; omega
theorem xor_range (a b : Int) : 0 ≤ Go.bits .xor .u64 a b ∧ Go.bits .xor .u64 a b < 18446744073709551616 := by unfold Go.bits; exact u64_range _
theorem u64_id {n : Int} (h0 : 0 ≤ n) (h : n < 18446744073709551616) : IntKind.u64.wrap n = n := by rw [IntKind.wrap_u64]; omega

theorem mix_range (a : Int) : ∃ m : Nat, rnd_mix.f a = some (m : Int) ∧ m < 18446744073709551616 := by
  unfold rnd_mix.f
  generalize IntKind.u64.wrap _ = z
  have h := xor_range z (z / 2147483648)
  refine ⟨(Go.bits .xor .u64 z (z / 2147483648)).toNat, ?_, ?_⟩
  · rw [Int.toNat_of_nonneg h.1]
  · omega

theorem next_range (s : Int) : ∃ m : Nat, rnd_Next.f s = some ((m : Int), IntKind.u64.wrap (s + 11400714819323198485)) ∧ m < 18446744073709551616 := by
  obtain ⟨m, hm, h⟩ := mix_range (IntKind.u64.wrap (s + 11400714819323198485))
  refine ⟨m, ?_, h⟩
  unfold rnd_Next.f
  rw [hm]; rfl

theorem hi_lt (x n : Nat) (hx : x < 18446744073709551616) (hn : 1 ≤ n) : x * n / 18446744073709551616 < n := by
  apply Nat.div_lt_of_lt_mul
  exact Nat.mul_lt_mul_of_pos_right hx (by omega)

theorem tdiv_u64 {z s : Int} (h0 : 0 ≤ z) (h : z < 18446744073709551616) (hs : 0 < s) : IntKind.u64.wrap (z.tdiv s) = z / s := by
  rw [Int.tdiv_eq_ediv_of_nonneg h0]
  exact u64_id (Int.ediv_nonneg h0 (by omega)) (Int.lt_of_le_of_lt (Int.ediv_le_self _ h0) h)

theorem spread_mix {z : Int} (h0 : 0 ≤ z) (h : z < 18446744073709551616) : mootref5_spread.f z = rnd_mix.f z := by
  unfold mootref5_spread.f rnd_mix.f mootref5_spread.e mootref5_spread.r
  rw [tdiv_u64 h0 h (by omega)]
  generalize e1 : IntKind.u64.wrap (Go.bits .xor .u64 z (z / 1073741824) * 13787848793156543929) = t1
  have r1 : 0 ≤ t1 ∧ t1 < 18446744073709551616 := by rw [← e1]; exact u64_range _
  rw [tdiv_u64 r1.1 r1.2 (by omega)]
  generalize e2 : IntKind.u64.wrap (Go.bits .xor .u64 t1 (t1 / 134217728) * 10723151780598845931) = t2
  have r2 : 0 ≤ t2 ∧ t2 < 18446744073709551616 := by rw [← e2]; exact u64_range _
  rw [tdiv_u64 r2.1 r2.2 (by omega)]
  have r3 := xor_range t2 (t2 / 2147483648)
  rw [u64_id r3.1 r3.2]

theorem ref_next (s : Int) : mootref5_Rnd_Next.f s = rnd_Next.f s := by
  unfold mootref5_Rnd_Next.f rnd_Next.f
  have h := u64_range (s + 11400714819323198485)
  rw [spread_mix h.1 h.2]

/-- The high half by the reference's halves. -/
theorem ref_hi (x y : Nat) (hx : x < 18446744073709551616) (hy : y < 18446744073709551616) :
    x / 4294967296 * (y / 4294967296) + x / 4294967296 * (y % 4294967296) / 4294967296 + x % 4294967296 * (y / 4294967296) / 4294967296 +
      (x % 4294967296 * (y % 4294967296) / 4294967296 + x / 4294967296 * (y % 4294967296) % 4294967296 + x % 4294967296 * (y / 4294967296) % 4294967296) / 4294967296 = x * y / 18446744073709551616 := by
  obtain ⟨_, _, _, hhi⟩ := Lib.mul64_hi x y hx hy
  rw [← hhi]
  generalize x / 4294967296 * (y / 4294967296) = a
  generalize x / 4294967296 * (y % 4294967296) = b
  generalize x % 4294967296 * (y / 4294967296) = c
  generalize x % 4294967296 * (y % 4294967296) = d
  omega

theorem below_is (s n : Int) (h : 1 ≤ n) (hn : n ≤ 9223372036854775807) : ∃ k : Nat, rnd_Below.f s n = some ((k : Int), IntKind.u64.wrap (s + 11400714819323198485)) ∧ mootref5_Rnd_Below.f s n = some ((k : Int), IntKind.u64.wrap (s + 11400714819323198485)) ∧ (k : Int) < n := by
  obtain ⟨m, hm, hlt⟩ := next_range s
  obtain ⟨y, rfl⟩ := Int.eq_ofNat_of_zero_le (show 0 ≤ n by omega)
  have hy : y < 18446744073709551616 := by omega
  have hb := hi_lt m y hlt (by omega)
  have hw : wrap64 ((m * y / 18446744073709551616 : Nat) : Int) = ((m * y / 18446744073709551616 : Nat) : Int) := by unfold wrap64; omega
  refine ⟨m * y / 18446744073709551616, ?_, ?_, by omega⟩
  · unfold rnd_Below.f
    rw [if_neg (by omega), hm]
    simp only [Option.bind_some]
    rw [show IntKind.u64.wrap (y : Int) = (y : Int) from wrapN y (by omega), mul64 m y hlt (by omega)]
    simp only [Option.bind_some]
    rw [hw]
  · unfold mootref5_Rnd_Below.f
    rw [if_neg (by omega), ref_next, hm]
    simp only [Option.bind_some]
    have hhi := ref_hi m y hlt hy
    have ba := Lib.half_mul_le (a := m / 4294967296) (b := y / 4294967296) (by omega) (by omega)
    have bb := Lib.half_mul_le (a := m / 4294967296) (b := y % 4294967296) (by omega) (by omega)
    have bc := Lib.half_mul_le (a := m % 4294967296) (b := y / 4294967296) (by omega) (by omega)
    have bd := Lib.half_mul_le (a := m % 4294967296) (b := y % 4294967296) (by omega) (by omega)
    have ba' : m / 4294967296 * (y / 4294967296) < 18446744073709551616 := by omega
    have bb' : m / 4294967296 * (y % 4294967296) < 18446744073709551616 := by omega
    have bc' : m % 4294967296 * (y / 4294967296) < 18446744073709551616 := by omega
    have bd' : m % 4294967296 * (y % 4294967296) < 18446744073709551616 := by omega
    have b1 : m % 4294967296 * (y % 4294967296) / 4294967296 + m / 4294967296 * (y % 4294967296) % 4294967296 < 18446744073709551616 := by omega
    have b2 : m % 4294967296 * (y % 4294967296) / 4294967296 + m / 4294967296 * (y % 4294967296) % 4294967296 + m % 4294967296 * (y / 4294967296) % 4294967296 < 18446744073709551616 := by omega
    have b3 : m / 4294967296 * (y / 4294967296) + m / 4294967296 * (y % 4294967296) / 4294967296 < 18446744073709551616 := by omega
    have b4 : m / 4294967296 * (y / 4294967296) + m / 4294967296 * (y % 4294967296) / 4294967296 + m % 4294967296 * (y / 4294967296) / 4294967296 < 18446744073709551616 := by omega
    have b5 : m / 4294967296 * (y / 4294967296) + m / 4294967296 * (y % 4294967296) / 4294967296 + m % 4294967296 * (y / 4294967296) / 4294967296 + (m % 4294967296 * (y % 4294967296) / 4294967296 + m / 4294967296 * (y % 4294967296) % 4294967296 + m % 4294967296 * (y / 4294967296) % 4294967296) / 4294967296 < 18446744073709551616 := by omega
    simp only [wrapN y hy, maskN m hlt, maskN y hy, divN, mulN, addN, wrapN _ ba', wrapN _ bb', wrapN _ bc', wrapN _ bd', maskN _ bb', maskN _ bc', wrapN _ b1, wrapN _ b2, wrapN _ b3, wrapN _ b4, wrapN _ b5]
    rw [hhi, hw]

theorem w64 {x : Int} (h0 : -9223372036854775808 ≤ x) (h1 : x < 9223372036854775808) : wrap64 x = x := by unfold wrap64; omega
theorem rd_at (pre : List Int) (y : Int) (suf : List Int) : rd (pre ++ y :: suf) (pre.length : Int) = y := by simp [rd]
theorem split_next (pre : List Int) (y : Int) (suf : List Int) : pre ++ y :: suf = (pre ++ [y]) ++ suf := by simp
theorem len_next (pre : List Int) (y : Int) : ((pre ++ [y]).length : Int) = (pre.length : Int) + 1 := by simp
theorem rd_left (p : List Int) (ys : List Int) (k : Nat) (h : k < p.length) : rd (p ++ ys) (k : Int) = rd p (k : Int) := by
  simp [rd, List.getElem?_append_left h]
theorem set_left (p ys : List Int) (k : Nat) (v : Int) (h : k < p.length) : (p ++ ys).set k v = p.set k v ++ ys := by
  rw [List.set_append]
  rw [if_pos h]
theorem set_mid (p : List Int) (y v : Int) (ys : List Int) : (p ++ y :: ys).set p.length v = p ++ v :: ys := by
  rw [List.set_append]
  rw [if_neg (by omega)]
  simp

theorem mixes (n : Nat) (hn : n ≤ 1000) (d : Nat) : ∀ (i : Nat) (p : List Int) (s : Int), p.length = i → i + d = n →
    ∃ l s', Ev (fun k => rnd_Mix.l0 k s p (n : Int) (i : Int)) (l, s') ∧ Ev (fun k => mootref5_Rnd_Mixed.l0 k (p ++ List.replicate d 0) (n : Int) (i : Int) s) (l, s') := by
  induction d with
  | zero =>
    intro i p s hp hi
    refine ⟨p, s, ⟨1, fun k hk => ?_⟩, ⟨1, fun k hk => ?_⟩⟩
    · obtain ⟨k, rfl⟩ : ∃ m, k = m + 1 := ⟨k - 1, by omega⟩
      simp only [rnd_Mix.l0]
      rw [if_neg (by omega)]
    · obtain ⟨k, rfl⟩ : ∃ m, k = m + 1 := ⟨k - 1, by omega⟩
      simp only [mootref5_Rnd_Mixed.l0]
      rw [if_neg (by omega)]
      simp
  | succ d ih =>
    intro i p s hp hi
    obtain ⟨q, b1, b2, hq⟩ := below_is s ((i : Int) + 1) (by omega) (by omega)
    have hqi : q ≤ i := by omega
    let v : Int := rd (p ++ [(i : Int)]) (q : Int)
    let p' : List Int := ((p ++ [(i : Int)]).set i v).set q (i : Int)
    have hp' : p'.length = i + 1 := by simp [p', hp]
    obtain ⟨l, s', e1, e2⟩ := ih (i + 1) p' (IntKind.u64.wrap (s + 11400714819323198485)) hp' (by omega)
    refine ⟨l, s', Ev.step (fun k => ?_) e1, Ev.step (fun k => ?_) e2⟩
    · simp only [rnd_Mix.l0]
      rw [if_pos (by omega), w64 (by omega) (by omega), b1]
      simp only [Option.bind_some]
      rw [if_pos (by omega), if_pos (by omega), if_pos (by simp; omega), if_pos (by omega), if_pos (by simp; omega)]
      have ev : rd (p ++ [(i : Int)]) (i : Int) = (i : Int) := by rw [← hp]; exact rd_at p _ []
      rw [ev]
      simp only [Int.toNat_natCast]
      rfl
    · have hlen : (p ++ List.replicate (d + 1) (0 : Int)).length = n := by simp; omega
      simp only [mootref5_Rnd_Mixed.l0]
      rw [if_pos (by omega), w64 (by omega) (by omega), b2]
      simp only [Option.bind_some]
      rw [hlen, if_pos (by omega), if_pos (by omega), if_pos (by omega), if_pos (by omega)]
      simp only [Int.toNat_natCast]
      have key : ((p ++ List.replicate (d + 1) (0 : Int)).set i (rd (p ++ List.replicate (d + 1) 0) (q : Int))).set q (i : Int) = p' ++ List.replicate d 0 := by
        subst hp
        rw [List.replicate_succ, set_mid]
        show _ = (((p ++ [(p.length : Int)]).set p.length (rd (p ++ [(p.length : Int)]) (q : Int))).set q (p.length : Int)) ++ List.replicate d 0
        rw [set_mid]
        by_cases c : q < p.length
        · rw [rd_left p _ q c, rd_left p _ q c, set_left p _ q _ c, set_left p _ q _ c]
          simp
        · have e : q = p.length := by omega
          subst e
          rw [set_mid, set_mid]
          simp
      rw [key]
      rfl

theorem equal_l0 (suf : List Int) : ∀ (pre : List Int), pre.length + suf.length ≤ 1000 → Ev (fun k => slices_Equal_int_int.l0 k (pre ++ suf) (pre ++ suf) ((pre ++ suf).length : Int) (pre.length : Int)) true := by
  induction suf with
  | nil =>
    intro pre hl
    refine ⟨1, fun k hk => ?_⟩
    obtain ⟨k, rfl⟩ : ∃ m, k = m + 1 := ⟨k - 1, by omega⟩
    simp only [slices_Equal_int_int.l0]
    rw [if_neg (by simp)]
  | cons y ys ih =>
    intro pre hl
    have hl' : pre.length + (ys.length + 1) ≤ 1000 := hl
    have hlt : (pre.length : Int) < ((pre ++ y :: ys).length : Int) := by simp; omega
    have h := ih (pre ++ [y]) (by simp; omega)
    refine Ev.step (fun k => ?_) h
    simp only [slices_Equal_int_int.l0]
    rw [if_pos hlt, if_pos (by omega), if_pos hlt, if_pos hlt, if_pos trivial, w64 (by omega) (by omega), len_next]
    simp
theorem equal_self (l : List Int) (h : l.length ≤ 1000) : Ev (fun k => slices_Equal_int_int.f k l l) true := by
  refine Ev.congr (fun k => ?_) (equal_l0 l [] (by simpa using h))
  unfold slices_Equal_int_int.f
  rw [if_pos rfl]
  rfl

theorem mix_len (n : Nat) (hn : n ≤ 1000) (d : Nat) : ∀ (i : Nat) (p : List Int) (s : Int) (k : Nat) (l : List Int) (s' : Int), p.length = i → i + d = n → rnd_Mix.l0 k s p (n : Int) (i : Int) = some (l, s') → l.length = n := by
  induction d with
  | zero =>
    intro i p s k l s' hp hi h
    cases k with
    | zero => simp [rnd_Mix.l0] at h
    | succ k =>
      simp only [rnd_Mix.l0] at h
      rw [if_neg (by omega)] at h
      simp only [Option.some.injEq, Prod.mk.injEq] at h
      rw [← h.1]; omega
  | succ d ih =>
    intro i p s k l s' hp hi h
    cases k with
    | zero => simp [rnd_Mix.l0] at h
    | succ k =>
      obtain ⟨q, b1, b2, hq⟩ := below_is s ((i : Int) + 1) (by omega) (by omega)
      simp only [rnd_Mix.l0] at h
      rw [if_pos (by omega), w64 (by omega) (by omega), b1] at h
      simp only [Option.bind_some] at h
      rw [if_pos (by omega), if_pos (by omega), if_pos (by simp; omega), if_pos (by omega), if_pos (by simp; omega)] at h
      exact ih (i + 1) _ _ k l s' (by simp [hp]) (by omega) h

theorem mix_both (s m : Int) : ∃ l s', Ev (fun k => rnd_Mix.f k s m) (l, s') ∧ Ev (fun k => mootref5_Rnd_Mixed.f k s m) (l, s') ∧ Ev (fun k => slices_Equal_int_int.f k l l) true := by
  by_cases h : mn m 1000 < 0
  · have hx : mx 0 (mn m 1000) = 0 := by unfold mx; omega
    refine ⟨[], s, ⟨1, fun k hk => ?_⟩, ⟨1, fun k hk => ?_⟩, equal_self [] (by simp)⟩
    · obtain ⟨k, rfl⟩ : ∃ m, k = m + 1 := ⟨k - 1, by omega⟩
      simp only [rnd_Mix.f, rnd_Mix.l0]
      rw [if_neg (by omega)]
    · obtain ⟨k, rfl⟩ : ∃ m, k = m + 1 := ⟨k - 1, by omega⟩
      simp only [mootref5_Rnd_Mixed.f, hx]
      rw [if_pos (by omega), if_pos (by simp)]
      simp [mootref5_Rnd_Mixed.l0]
  · obtain ⟨n, hn⟩ := Int.eq_ofNat_of_zero_le (show 0 ≤ mn m 1000 by omega)
    have hn1 : n ≤ 1000 := by unfold mn at hn; omega
    have hx : mx 0 (mn m 1000) = (n : Int) := by unfold mx; omega
    obtain ⟨l, s', e1, e2⟩ := mixes n hn1 n 0 [] s rfl (by omega)
    have hl : l.length = n := by
      obtain ⟨k, hk⟩ := e1
      exact mix_len n hn1 n 0 [] s k l s' rfl (by omega) (hk k (Nat.le_refl _))
    refine ⟨l, s', Ev.congr (fun k => ?_) e1, Ev.congr (fun k => ?_) e2, equal_self l (by omega)⟩
    · unfold rnd_Mix.f
      rw [hn]
      rfl
    · unfold mootref5_Rnd_Mixed.f
      rw [hx, if_pos (by omega), if_pos (by simp; omega)]
      simp

theorem RndNexts : mootlaw5_RndNexts.Pure := by
  intro s n key hs hn hk
  have bs := bounds_u64 hs
  have bn := bounds_i64 hn
  obtain ⟨x, hx, hxlt⟩ := next_range s
  have hb : ∃ kk nb, rnd_Below.f s n = some (kk, nb) ∧ mootref5_Rnd_Below.f s n = some (kk, nb) := by
    by_cases c : n < 1
    · refine ⟨0, s, ?_, ?_⟩
      · unfold rnd_Below.f; rw [if_pos c]
      · unfold mootref5_Rnd_Below.f; rw [if_pos c]
    · obtain ⟨k, h1, h2, _⟩ := below_is s n (by omega) (by omega)
      exact ⟨_, _, h1, h2⟩
  obtain ⟨kk, nb, hb1, hb2⟩ := hb
  have r1 := u64_range (IntKind.u64.wrap key + 11400714819323198485)
  obtain ⟨t1, ht1, _⟩ := mix_range (IntKind.u64.wrap (IntKind.u64.wrap key + 11400714819323198485))
  have r2 := xor_range s (t1 : Int)
  obtain ⟨sp, hsp, _⟩ := mix_range (Go.bits .xor .u64 s (t1 : Int))
  let m : Int := if 40 < n then n % 40 else if n < -1 then n.tmod 40 else n
  obtain ⟨l, nm, e1, e2, e3⟩ := mix_both s m
  obtain ⟨k1, q1⟩ := e1
  obtain ⟨k2, q2⟩ := e2
  obtain ⟨k3, q3⟩ := e3
  refine ⟨k1 + k2 + k3, m, x, _, kk, nb, sp, t1, nm, l, hx, by rw [ref_next]; exact hx, ?_, hb1, hb2, ?_, by rw [spread_mix r1.1 r1.2]; exact ht1, by rw [spread_mix r2.1 r2.2]; exact hsp, ?_, q1 _ (by omega), q2 _ (by omega), q3 _ (by omega)⟩
  · intro h0
    subst h0
    have e : rnd_Next.f 0 = some (16294208416658607535, 11400714819323198485) := by decide +kernel
    rw [e] at hx
    simp only [Option.some.injEq, Prod.mk.injEq] at hx
    exact hx.1.symm
  · unfold rnd_Split.f
    rw [ht1]
    simp only [Option.bind_some]
    rw [hsp]
    rfl
  · by_cases c1 : 40 < n
    · exact .inl ⟨c1, if_pos c1⟩
    · by_cases c2 : n < -1
      · exact .inr (.inl ⟨c1, c2, by show (if 40 < n then _ else _) = _; rw [if_neg c1, if_pos c2]⟩)
      · exact .inr (.inr ⟨c1, c2, by show (if 40 < n then _ else _) = _; rw [if_neg c1, if_neg c2]⟩)
end Go.Proofs.Ytelahnbamemdeaa.Pure
