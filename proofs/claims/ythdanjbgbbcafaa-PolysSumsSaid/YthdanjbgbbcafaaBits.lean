/- The library's words of 64 bits: sums, products, lengths, told as natural numbers. -/
import Derived.Test.YthdanjbgbbcafaaMem
import Derived.Test.YthdanjbgbbcafaaTyp
import Derived.Test.YthdanjbgbbcafaaEq
import Derived.Test.YthdanjbgbbcafaaLen
import Derived.Shelf.Spec.BitsCarry
import Derived.Lib.Mul64
import Derived.Lib.BitFns
import Derived.WalkKit
import Derived.WalkSpells
import Derived.WalkLawsBesides
import Derived.BigQuiet
import Derived.Outline
import Derived.IntWalk
import Derived.Laws.Bits64b
namespace Go.Proofs.Ythdanjbgbbcafaa
open Go Go.RowKit

/-- A word as a value. -/
abbrev uw (n : Nat) : Value := .int .u64 (n : Int)

/-- How many bits a number needs. -/
def blen (n : Nat) : Nat := if n = 0 then 0 else Nat.log2 n + 1
theorem blen_zero : blen 0 = 0 := rfl
theorem blen_lt (n : Nat) : n < 2 ^ blen n := by
  unfold blen
  split
  · omega
  · exact Nat.lt_log2_self
theorem blen_le (n : Nat) (h : n ≠ 0) : 2 ^ (blen n - 1) ≤ n := by
  unfold blen
  rw [if_neg h, Nat.add_sub_cancel]
  exact Nat.log2_self_le h
theorem blen_pos (n : Nat) (h : n ≠ 0) : 0 < blen n := by
  unfold blen
  rw [if_neg h]; omega
theorem blen_of (n k : Nat) (h0 : 2 ^ k ≤ n) (h1 : n < 2 ^ (k + 1)) : blen n = k + 1 := by
  have hn : n ≠ 0 := by
    intro e
    have := Nat.one_le_two_pow (n := k)
    omega
  unfold blen
  rw [if_neg hn]
  have := (Nat.log2_eq_iff hn).2 ⟨h0, h1⟩
  omega
theorem blen_most (n k : Nat) (h : n < 2 ^ k) : blen n ≤ k := by
  unfold blen
  split
  · omega
  · rename_i hn
    have := (Nat.log2_lt hn).2 h
    omega
theorem blen_half (n : Nat) (h : n ≠ 0) : blen n = 1 + blen (n / 2) := by
  rcases Nat.lt_or_ge n 2 with h2 | h2
  · obtain rfl : n = 1 := by omega
    decide
  · have hn := blen_le (n / 2) (by omega)
    have hl := blen_lt (n / 2)
    have hp := blen_pos (n / 2) (by omega)
    have := blen_of n (blen (n / 2)) (by
      have e : 2 ^ blen (n / 2) = 2 ^ (blen (n / 2) - 1) * 2 := by rw [← Nat.pow_succ]; congr 1; omega
      omega) (by rw [Nat.pow_succ]; omega)
    omega
theorem bitLen_blen (n : Nat) (h : n < 2 ^ 64) : Lib.bitLen n = blen n := by
  induction n using Nat.strongRecOn with
  | _ n ih =>
    by_cases h0 : n = 0
    · subst h0; rfl
    · rw [Lib.bitLen_half n h0 h, blen_half n h0, ih (n / 2) (by omega) (by omega)]

theorem add64_run (x y c : Nat) (hc : c ≤ 1) (w : World) :
    (callFunc 73 #[uw x, uw y, uw c]).run Try.prog w = .ok (.value (.tuple #[uw ((x + y + c) % 18446744073709551616), uw ((x + y + c) / 18446744073709551616)])) w := by
  rw [run_callFunc_extern Try.func73 (by kernel_rfl) (by kernel_rfl) (by kernel_rfl) (e := add64Entry) (by kernel_rfl), run_add64 x y c (by omega) (by omega) (by omega) (by omega)]
  simp only [Result.andThen, uw]
  congr 5 <;> omega
theorem sub64_run (x y b : Nat) (hb : b ≤ 1) (w : World) :
    (callFunc 74 #[uw x, uw y, uw b]).run Try.prog w = .ok (.value (.tuple #[uw ((x + 18446744073709551616 - y - b) % 18446744073709551616), uw (if x < y + b then 1 else 0)])) w := by
  rw [run_callFunc_extern Try.func74 (by kernel_rfl) (by kernel_rfl) (by kernel_rfl) (e := sub64Entry) (by kernel_rfl), run_sub64 x y b hb]
  rfl

namespace Mul64
theorem maskN (a : Nat) (ha : a < 18446744073709551616) : bits .and .u64 (a : Int) 4294967295 = ((a % 4294967296 : Nat) : Int) := by
  have h := bits_and_u64_nat a 4294967295 ha (by omega)
  have e : a &&& 4294967295 = a % 4294967296 := Nat.and_two_pow_sub_one_eq_mod a 32
  rw [e] at h
  exact h
theorem divN (a : Nat) : (a : Int) / 4294967296 = ((a / 4294967296 : Nat) : Int) := by omega
theorem mulN (a b : Nat) : (a : Int) * (b : Int) = ((a * b : Nat) : Int) := (Int.natCast_mul a b).symm
theorem addN (a b : Nat) : (a : Int) + (b : Int) = ((a + b : Nat) : Int) := (Int.natCast_add a b).symm
theorem wrapN (a : Nat) (ha : a < 18446744073709551616) : IntKind.u64.wrap (a : Int) = (a : Int) := by rw [IntKind.wrap_u64]; omega
theorem wrapM (a : Nat) : IntKind.u64.wrap (a : Int) = ((a % 18446744073709551616 : Nat) : Int) := by rw [IntKind.wrap_u64]; omega
end Mul64
set_option maxHeartbeats 1000000 in
theorem mul64_any (x y : Nat) (hx : x < 18446744073709551616) (hy : y < 18446744073709551616) (w : World) :
    Calls Try.prog 88 #[uw x, uw y] w fun e w' => e = .returned (.tuple #[uw (x * y / 18446744073709551616), uw (x * y % 18446744073709551616)]) ∧ w = w' := by
  obtain ⟨bd, bt, bw, hhi⟩ := Lib.mul64_hi x y hx hy
  have ba := Lib.half_mul_le (a := x / 4294967296) (b := y / 4294967296) (by omega) (by omega)
  have bb := Lib.half_mul_le (a := x / 4294967296) (b := y % 4294967296) (by omega) (by omega)
  have bc := Lib.half_mul_le (a := x % 4294967296) (b := y / 4294967296) (by omega) (by omega)
  have ba' : x / 4294967296 * (y / 4294967296) < 18446744073709551616 := by omega
  have bb' : x / 4294967296 * (y % 4294967296) < 18446744073709551616 := by omega
  have bc' : x % 4294967296 * (y / 4294967296) < 18446744073709551616 := by omega
  have bh1 : x / 4294967296 * (y / 4294967296) + (x / 4294967296 * (y % 4294967296) + x % 4294967296 * (y % 4294967296) / 4294967296) / 4294967296 < 18446744073709551616 := by omega
  have bh : x / 4294967296 * (y / 4294967296) + (x / 4294967296 * (y % 4294967296) + x % 4294967296 * (y % 4294967296) / 4294967296) / 4294967296 + ((x / 4294967296 * (y % 4294967296) + x % 4294967296 * (y % 4294967296) / 4294967296) % 4294967296 + x % 4294967296 * (y / 4294967296)) / 4294967296 < 18446744073709551616 := by omega
  go_enter Try.func88, Try.ntmps88
  go_wp2
  simp only [Mul64.maskN x hx, Mul64.maskN y hy, Mul64.divN, Mul64.mulN, Mul64.addN, Mul64.wrapN _ bd, Mul64.wrapN _ bb', Mul64.wrapN _ bt, Mul64.maskN _ bt, Mul64.wrapN _ bc', Mul64.wrapN _ bw, Mul64.wrapN _ ba', Mul64.wrapN _ bh1, Mul64.wrapN _ bh, Mul64.wrapM (x * y)]
  rw [hhi]
  go_ret2
  exact ⟨rfl, rfl⟩

theorem len64_any (x : Nat) (w : World) (h : x < 18446744073709551616) :
    Calls Try.prog 36 #[uw x] w fun e w' => e = .returned (.int .i64 (blen x)) ∧ w = w' :=
  (len64_int (x : Int) w (by omega) (by omega)).mono fun _ _ ⟨he, hw⟩ => ⟨by rw [he, Int.toNat_natCast, bitLen_blen x h], hw.symm⟩
theorem blen_le64 (x : Nat) (h : x < 18446744073709551616) : blen x ≤ 64 := blen_most x 64 h
theorem lz64_any (x : Nat) (w : World) (h : x < 18446744073709551616) :
    Calls Try.prog 92 #[uw x] w fun e w' => e = .returned (.int .i64 ((64 - blen x : Nat) : Int)) ∧ w = w' := by
  have l := blen_le64 x h
  have e8 : (64 - (blen x : Int)) = ((64 - blen x : Nat) : Int) := by omega
  have H := hide e8
  clear e8
  go_enter Try.func92, Try.ntmps92
  go_wp2_with fail
  with_reducible refine (len64_any x w h).mono ?_
  rintro e w' ⟨rfl, rfl⟩
  go_wp2_with fail
  go_ret
  exact ⟨by rw [← H.out]; rfl, rfl⟩
end Go.Proofs.Ythdanjbgbbcafaa
