/- The number that Below returns lies from 0 to n - 1, and its state is Next's; below n = 1 it is 0 and the state itself. -/
import Derived.Test.YtelahnbamemdeaaPRndRangex1
import Derived.Lib.Mul64
import Derived.OpenShut
import Derived.Laws.Bits64b
namespace Go.Proofs.Ytelahnbamemdeaa.Pure
open Go.RowKit Go.Proofs.Ytelahnbamemdeaa.PRndRange Go.Proofs.YtelahnbamemdeaaW.PrintWords Go.Proofs.YtelahnbamemdeaaW.PrintLast

theorem maskN (a : Nat) (ha : a < 18446744073709551616) : bits .and .u64 (a : Int) 4294967295 = ((a % 4294967296 : Nat) : Int) := by
  have h := bits_and_u64_nat a 4294967295 ha (by omega)
  have e : a &&& 4294967295 = a % 4294967296 := Nat.and_two_pow_sub_one_eq_mod a 32
  rw [e] at h
  exact h
theorem divN (a : Nat) : (a : Int) / 4294967296 = ((a / 4294967296 : Nat) : Int) := by omega
theorem mulN (a b : Nat) : (a : Int) * (b : Int) = ((a * b : Nat) : Int) := (Int.natCast_mul a b).symm
theorem addN (a b : Nat) : (a : Int) + (b : Int) = ((a + b : Nat) : Int) := (Int.natCast_add a b).symm
theorem wrapN (a : Nat) (ha : a < 18446744073709551616) : IntKind.u64.wrap (a : Int) = (a : Int) := by rw [IntKind.wrap_u64]; omega
theorem wrapM (a : Nat) : IntKind.u64.wrap (a : Int) = ((a % 18446744073709551616 : Nat) : Int) := by rw [IntKind.wrap_u64]; omega

theorem mul64 (x y : Nat) (hx : x < 18446744073709551616) (hy : y < 18446744073709551616) :
    bits_Mul64.f x y = some (((x * y / 18446744073709551616 : Nat) : Int), ((x * y % 18446744073709551616 : Nat) : Int)) := by
  obtain ⟨bd, bt, bw, hhi⟩ := Lib.mul64_hi x y hx hy
  have ba := Lib.half_mul_le (a := x / 4294967296) (b := y / 4294967296) (by omega) (by omega)
  have bb := Lib.half_mul_le (a := x / 4294967296) (b := y % 4294967296) (by omega) (by omega)
  have bc := Lib.half_mul_le (a := x % 4294967296) (b := y / 4294967296) (by omega) (by omega)
  have ba' : x / 4294967296 * (y / 4294967296) < 18446744073709551616 := by omega
  have bb' : x / 4294967296 * (y % 4294967296) < 18446744073709551616 := by omega
  have bc' : x % 4294967296 * (y / 4294967296) < 18446744073709551616 := by omega
  have bh1 : x / 4294967296 * (y / 4294967296) + (x / 4294967296 * (y % 4294967296) + x % 4294967296 * (y % 4294967296) / 4294967296) / 4294967296 < 18446744073709551616 := by omega
  have bh : x / 4294967296 * (y / 4294967296) + (x / 4294967296 * (y % 4294967296) + x % 4294967296 * (y % 4294967296) / 4294967296) / 4294967296 + ((x / 4294967296 * (y % 4294967296) + x % 4294967296 * (y % 4294967296) / 4294967296) % 4294967296 + x % 4294967296 * (y / 4294967296)) / 4294967296 < 18446744073709551616 := by omega
  unfold bits_Mul64.f
  simp only [maskN x hx, maskN y hy, divN, mulN, addN, wrapN _ bd, wrapN _ bb', wrapN _ bt, maskN _ bt, wrapN _ bc', wrapN _ bw, wrapN _ ba', wrapN _ bh1, wrapN _ bh, wrapM (x * y)]
  rw [hhi]

theorem u64_range (n : Int) : 0 ≤ IntKind.u64.wrap n ∧ IntKind.u64.wrap n < 18446744073709551616 := by rw [IntKind.wrap_u64]; omega

theorem mix_range (a : Int) : ∃ m : Nat, rnd_mix.f a = some (m : Int) ∧ m < 18446744073709551616 := by
  unfold rnd_mix.f
  generalize IntKind.u64.wrap _ = z
  refine ⟨(Go.bits .xor .u64 z (z / 2147483648)).toNat, ?_, ?_⟩
  · have h := u64_range (match BinOp.xor with | .and => (BitVec.ofInt IntKind.u64.bits z) &&& (BitVec.ofInt IntKind.u64.bits (z / 2147483648)) | .or => (BitVec.ofInt IntKind.u64.bits z) ||| (BitVec.ofInt IntKind.u64.bits (z / 2147483648)) | .xor => (BitVec.ofInt IntKind.u64.bits z) ^^^ (BitVec.ofInt IntKind.u64.bits (z / 2147483648)) | _ => (BitVec.ofInt IntKind.u64.bits z) &&& ~~~(BitVec.ofInt IntKind.u64.bits (z / 2147483648))).toNat
    have e : 0 ≤ Go.bits .xor .u64 z (z / 2147483648) := by unfold Go.bits; exact h.1
    rw [Int.toNat_of_nonneg e]
  · have h := u64_range (match BinOp.xor with | .and => (BitVec.ofInt IntKind.u64.bits z) &&& (BitVec.ofInt IntKind.u64.bits (z / 2147483648)) | .or => (BitVec.ofInt IntKind.u64.bits z) ||| (BitVec.ofInt IntKind.u64.bits (z / 2147483648)) | .xor => (BitVec.ofInt IntKind.u64.bits z) ^^^ (BitVec.ofInt IntKind.u64.bits (z / 2147483648)) | _ => (BitVec.ofInt IntKind.u64.bits z) &&& ~~~(BitVec.ofInt IntKind.u64.bits (z / 2147483648))).toNat
    have e : Go.bits .xor .u64 z (z / 2147483648) < 18446744073709551616 := by unfold Go.bits; exact h.2
    omega

theorem next_range (s : Int) : ∃ m : Nat, rnd_Next.f s = some ((m : Int), IntKind.u64.wrap (s + 11400714819323198485)) ∧ m < 18446744073709551616 := by
  obtain ⟨m, hm, h⟩ := mix_range (IntKind.u64.wrap (s + 11400714819323198485))
  refine ⟨m, ?_, h⟩
  unfold rnd_Next.f
  rw [hm]; rfl

theorem rolled_true : mootkeep5_rolled.f = some true := by
  decide +kernel

theorem hi_lt (x n : Nat) (hx : x < 18446744073709551616) (hn : 1 ≤ n) : x * n / 18446744073709551616 < n := by
  apply Nat.div_lt_of_lt_mul
  exact Nat.mul_lt_mul_of_pos_right hx (by omega)

theorem below_range (s n : Int) (h : 1 ≤ n) (hn : n ≤ 9223372036854775807) : ∃ k : Nat, rnd_Below.f s n = some ((k : Int), IntKind.u64.wrap (s + 11400714819323198485)) ∧ (k : Int) < n := by
  obtain ⟨m, hm, hlt⟩ := next_range s
  obtain ⟨y, rfl⟩ := Int.eq_ofNat_of_zero_le (show 0 ≤ n by omega)
  refine ⟨m * y / 18446744073709551616, ?_, ?_⟩
  · unfold rnd_Below.f
    rw [if_neg (by omega), hm]
    simp only [Option.bind_some]
    rw [show IntKind.u64.wrap (y : Int) = (y : Int) from wrapN y (by omega), mul64 m y hlt (by omega)]
    simp only [Option.bind_some]
    have hb := hi_lt m y hlt (by omega)
    rw [show wrap64 ((m * y / 18446744073709551616 : Nat) : Int) = ((m * y / 18446744073709551616 : Nat) : Int) from by unfold wrap64; omega]
  · have hb := hi_lt m y hlt (by omega)
    omega

theorem RndRange : mootkeep5_RndRange.Pure := by
  intro s n hs hn
  obtain ⟨m, hm, hlt⟩ := next_range s
  have hb := bounds_i64 hn
  unfold mootkeep5_RndRange.f
  by_cases h : n < 1
  · have e : rnd_Below.f s n = some (0, s) := by unfold rnd_Below.f; rw [if_pos h]
    rw [e, hm]
    simp only [Option.bind_some]
    rw [if_pos h, rolled_true]
    simp
  · obtain ⟨k, hk, hkn⟩ := below_range s n (by omega) hb.2
    rw [hk, hm]
    simp only [Option.bind_some]
    rw [if_neg h, rolled_true]
    simp
    omega

end Go.Proofs.Ytelahnbamemdeaa.Pure
