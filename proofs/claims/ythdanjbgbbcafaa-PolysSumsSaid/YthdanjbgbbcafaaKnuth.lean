/- A number of two words by one, in halves: plain mathematics. -/
import Derived.Test.YthdanjbgbbcafaaBits
namespace Go.Proofs.Ythdanjbgbbcafaa

theorem kn_dm (n v q : Nat) (hv : 0 < v) (hq : q = n / v) : n = q * v + n % v ∧ n % v < v :=
  ⟨by rw [hq, Nat.mul_comm]; exact (Nat.div_add_mod n v).symm, Nat.mod_lt _ hv⟩
theorem kn_md (q p v : Nat) (B a b x y z : Nat) (h1 : x = q * v + y) (h2 : y * B + a = p * v + z) (hb : b = x * B + a) : b = v * (q * B + p) + z := by
  rw [hb, h1, Nat.mul_add, Nat.add_mul, Nat.mul_comm v (q * B), Nat.mul_right_comm q v B, Nat.mul_comm v p]
  omega
section
variable {y1 y0 u d q r : Nat}
theorem kn_mul (q y1 y0 : Nat) : q * (y1 * 4294967296 + y0) = q * y1 * 4294967296 + q * y0 := by
  rw [Nat.mul_add, Nat.mul_assoc]
theorem kn_small (_hy1 : 2147483648 ≤ y1) (hu : u < y1 * 4294967296 + y0) (hd : d < 4294967296) : (u * 4294967296 + d) / (y1 * 4294967296 + y0) < 4294967296 := by
  rw [Nat.div_lt_iff_lt_mul (by omega)]
  omega
/-- The guess is not too low. -/
theorem kn_init (hy1 : 2147483648 ≤ y1) (hd : d < 4294967296) : (u * 4294967296 + d) / (y1 * 4294967296 + y0) ≤ u / y1 := by
  rw [Nat.le_div_iff_mul_le (by omega)]
  generalize hq : (u * 4294967296 + d) / (y1 * 4294967296 + y0) = q
  have h := Nat.div_mul_le_self (u * 4294967296 + d) (y1 * 4294967296 + y0)
  rw [hq, kn_mul] at h
  omega
/-- One less, where it is too high. -/
theorem kn_step (hy1 : 2147483648 ≤ y1) (hu : u < y1 * 4294967296 + y0) (hd : d < 4294967296) (h : q * y1 + r = u) (hq : (u * 4294967296 + d) / (y1 * 4294967296 + y0) ≤ q)
    (hc : 4294967296 ≤ q ∨ 4294967296 * r + d < q * y0) : 1 ≤ q ∧ (u * 4294967296 + d) / (y1 * 4294967296 + y0) ≤ q - 1 ∧ (q - 1) * y1 + (r + y1) = u := by
  have hs := kn_small hy1 hu hd
  have key : (u * 4294967296 + d) / (y1 * 4294967296 + y0) < q := by
    rcases hc with hc | hc
    · omega
    · rw [Nat.div_lt_iff_lt_mul (by omega), kn_mul]
      omega
  generalize (u * 4294967296 + d) / (y1 * 4294967296 + y0) = z at *
  refine ⟨by omega, by omega, ?_⟩
  have hq1 : 1 ≤ q := by omega
  obtain ⟨m, rfl⟩ : ∃ m, q = m + 1 := ⟨q - 1, by omega⟩
  rw [Nat.add_sub_cancel]
  rw [Nat.add_mul] at h
  omega
/-- The end, where it is not. -/
theorem kn_end (hy1 : 2147483648 ≤ y1) (h : q * y1 + r = u) (hq : (u * 4294967296 + d) / (y1 * 4294967296 + y0) ≤ q)
    (hc : q * y0 ≤ 4294967296 * r + d) : q = (u * 4294967296 + d) / (y1 * 4294967296 + y0) := by
  have : q ≤ (u * 4294967296 + d) / (y1 * 4294967296 + y0) := by
    rw [Nat.le_div_iff_mul_le (by omega), kn_mul]
    omega
  omega
/-- The end, where what is left has grown. -/
theorem kn_break (hy1 : 2147483648 ≤ y1) (hy0 : y0 < 4294967296) (hu : u < y1 * 4294967296 + y0) (h : q * y1 + r = u) (hq : (u * 4294967296 + d) / (y1 * 4294967296 + y0) ≤ q) (hr : 4294967296 ≤ r) :
    q = (u * 4294967296 + d) / (y1 * 4294967296 + y0) := by
  have hqb : q < 4294967296 := by
    rcases Nat.lt_or_ge q 4294967296 with h1 | h1
    · exact h1
    · have := Nat.mul_le_mul_right y1 h1
      omega
  refine kn_end hy1 h hq ?_
  have h1 : q * y0 ≤ 4294967296 * 4294967296 := Nat.mul_le_mul (by omega) (by omega)
  omega
/-- What is left behind the first half. -/
theorem kn_left (hy1 : 2147483648 ≤ y1) (hq : q = (u * 4294967296 + d) / (y1 * 4294967296 + y0)) :
    u * 4294967296 + d = q * (y1 * 4294967296 + y0) + (u * 4294967296 + d) % (y1 * 4294967296 + y0) ∧ (u * 4294967296 + d) % (y1 * 4294967296 + y0) < y1 * 4294967296 + y0 := by
  exact kn_dm _ _ _ (by omega) hq
end
/-- Both halves together. -/
theorem kn_both (B u a c v q p m n : Nat) (hv : 0 < v) (h1 : u * B + a = q * v + m) (h2 : m * B + c = p * v + n) (hn : n < v) :
    (u * (B * B) + (a * B + c)) / v = q * B + p ∧ (u * (B * B) + (a * B + c)) % v = n := by
  have hb : u * (B * B) + (a * B + c) = (u * B + a) * B + c := by rw [Nat.add_mul, Nat.mul_assoc, Nat.add_assoc]
  have e := kn_md (B := B) (h1 := h1) (h2 := h2) (hb := hb)
  rw [e]
  exact ⟨by rw [Nat.mul_add_div hv, Nat.div_eq_of_lt hn, Nat.add_zero], by rw [Nat.mul_add_mod]; exact Nat.mod_eq_of_lt hn⟩
/-- .. out of what was shifted. -/
theorem kn_shift (n y k : Nat) : n * 2 ^ k / (y * 2 ^ k) = n / y ∧ n * 2 ^ k % (y * 2 ^ k) / 2 ^ k = n % y := by
  have hk : 0 < 2 ^ k := Nat.two_pow_pos k
  refine ⟨Nat.mul_div_mul_right n y hk, ?_⟩
  rw [Nat.mul_mod_mul_right, Nat.mul_div_cancel _ hk]
/-- What a shift makes of two words. -/
theorem kn_words (hi lo y k : Nat) (hk : k < 64) (hlo : lo < 18446744073709551616) (hh : hi < y) :
    hi * 2 ^ k + lo / 2 ^ (64 - k) < y * 2 ^ k ∧ (hi * 18446744073709551616 + lo) * 2 ^ k = (hi * 2 ^ k + lo / 2 ^ (64 - k)) * 18446744073709551616 + lo * 2 ^ k % 18446744073709551616 ∧ lo / 2 ^ (64 - k) < 2 ^ k := by
  have e : 2 ^ (64 - k) * 2 ^ k = 18446744073709551616 := by rw [← Nat.pow_add, Nat.sub_add_cancel (by omega)]
  have hd : lo / 2 ^ (64 - k) < 2 ^ k := by
    rw [Nat.div_lt_iff_lt_mul (Nat.two_pow_pos _), Nat.mul_comm, e]; exact hlo
  have hq : lo * 2 ^ k / 18446744073709551616 = lo / 2 ^ (64 - k) := by
    rw [← e, Nat.mul_div_mul_right _ _ (Nat.two_pow_pos k)]
  refine ⟨?_, ?_, hd⟩
  · have h1 : (hi + 1) * 2 ^ k ≤ y * 2 ^ k := Nat.mul_le_mul_right _ hh
    rw [Nat.add_mul] at h1
    omega
  · have h2 := Nat.div_add_mod (lo * 2 ^ k) 18446744073709551616
    rw [hq] at h2
    rw [Nat.add_mul, Nat.add_mul, Nat.mul_right_comm]
    omega
/-- How far a word is shifted. -/
theorem kn_norm (y : Nat) (h0 : 0 < y) (h : y < 18446744073709551616) : 64 - blen y < 64 ∧ 9223372036854775808 ≤ y * 2 ^ (64 - blen y) ∧ y * 2 ^ (64 - blen y) < 18446744073709551616 := by
  have h1 := blen_le64 y h
  have h2 := blen_pos y (by omega)
  have h3 := blen_le y (by omega)
  have h4 := blen_lt y
  refine ⟨by omega, ?_, ?_⟩
  · have e : 2 ^ (blen y - 1) * 2 ^ (64 - blen y) = 9223372036854775808 := by rw [← Nat.pow_add, show blen y - 1 + (64 - blen y) = 63 by omega]
    have := Nat.mul_le_mul_right (2 ^ (64 - blen y)) h3
    omega
  · have e : 2 ^ blen y * 2 ^ (64 - blen y) = 18446744073709551616 := by rw [← Nat.pow_add, show blen y + (64 - blen y) = 64 by omega]
    have := Nat.mul_lt_mul_of_pos_right h4 (Nat.two_pow_pos (64 - blen y))
    omega
end Go.Proofs.Ythdanjbgbbcafaa
