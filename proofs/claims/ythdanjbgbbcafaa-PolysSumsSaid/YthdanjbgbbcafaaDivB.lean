/- Division of long numbers: plain mathematics. -/
import Derived.Test.YthdanjbgbbcafaaDivA
namespace Go.Proofs.Ythdanjbgbbcafaa
open Go Go.RowKit

/-- By a word: the words from j on. -/
def hi_ (f : Nat → Nat) (j i : Nat) : Nat := if j ≤ i then f i else 0
theorem hi_zero (f : Nat → Nat) : wrow (hi_ f 4) = num 0 := by
  rw [num_zero]; rfl
theorem hi_set (f : Nat → Nat) (j : Nat) (h : j < 4) : (wrow (hi_ f (j + 1))).setIfInBounds j (uw (f j)) = wrow (hi_ f j) := by
  rw [wrow_set _ _ _ h]
  refine wrow_congr fun i _ => ?_
  unfold hi_
  by_cases h1 : i = j
  · subst h1; rw [if_pos rfl, if_pos (by omega)]
  · rw [if_neg h1]
    by_cases h2 : j + 1 ≤ i
    · rw [if_pos h2, if_pos (by omega)]
    · rw [if_neg h2, if_neg (by omega)]
theorem hi_full (f : Nat → Nat) : wrow (hi_ f 0) = wrow f := wrow_congr fun i _ => by unfold hi_; rw [if_pos (by omega)]
/-- What stands from word j on. -/
def upw (a j : Nat) : Nat := a / 18446744073709551616 ^ j
theorem upw_0 (a : Nat) : upw a 0 = a := by unfold upw; rw [Nat.pow_zero, Nat.div_one]
theorem upw_4 {a : Nat} (h : a < big) : upw a 4 = 0 := Nat.div_eq_of_lt (by unfold big at h; exact h)
theorem wd_upw (a j : Nat) : wd a j = upw a j % 18446744073709551616 := by
  unfold wd upw
  rw [Nat.pow_mul]
theorem upw_step (a j : Nat) : upw a j = upw a (j + 1) * 18446744073709551616 + wd a j := by
  rw [wd_upw]
  have h : upw a (j + 1) = upw a j / 18446744073709551616 := by
    unfold upw
    rw [Nat.pow_succ, Nat.div_div_eq_div_mul]
  rw [h, Nat.mul_comm]
  exact (Nat.div_add_mod _ _).symm
def qWord (a b j : Nat) : Nat := (upw a (j + 1) % b * 18446744073709551616 + wd a j) / b
theorem qWord_lt (a b j : Nat) (hb : 0 < b) : qWord a b j < 18446744073709551616 := by
  unfold qWord
  rw [Nat.div_lt_iff_lt_mul hb]
  have h1 := Nat.mod_lt (upw a (j + 1)) hb
  have h2 := wd_lt a j
  generalize upw a (j + 1) % b = r at *
  have h3 : (r + 1) * 18446744073709551616 ≤ b * 18446744073709551616 := Nat.mul_le_mul_right _ h1
  rw [Nat.mul_comm 18446744073709551616 b]
  omega
theorem word_mod (a b j : Nat) : (upw a (j + 1) % b * 18446744073709551616 + wd a j) % b = upw a j % b := by
  rw [upw_step a j, Nat.add_mod, Nat.mul_mod, Nat.mod_mod, ← Nat.mul_mod, ← Nat.add_mod]
theorem word_div (a b j : Nat) (hb : 0 < b) : upw a j / b = upw a (j + 1) / b * 18446744073709551616 + qWord a b j := by
  unfold qWord
  have h := Nat.div_add_mod (upw a (j + 1)) b
  have e : upw a j = (upw a (j + 1) % b * 18446744073709551616 + wd a j) + b * (upw a (j + 1) / b * 18446744073709551616) := by
    rw [upw_step a j]
    generalize upw a (j + 1) / b = Q at *
    generalize upw a (j + 1) % b = R at *
    rw [← Nat.mul_assoc, ← h, Nat.add_mul]
    omega
  rw [e, Nat.add_mul_div_left _ _ hb, Nat.add_comm]
theorem word_quo {a b : Nat} (ha : a < big) (hb : 0 < b) : ofw (qWord a b) = a / b := by
  have h0 : upw a 0 / b = upw a 1 / b * 18446744073709551616 + qWord a b 0 := word_div a b 0 hb
  have h1 : upw a 1 / b = upw a 2 / b * 18446744073709551616 + qWord a b 1 := word_div a b 1 hb
  have h2 : upw a 2 / b = upw a 3 / b * 18446744073709551616 + qWord a b 2 := word_div a b 2 hb
  have h3 : upw a 3 / b = upw a 4 / b * 18446744073709551616 + qWord a b 3 := word_div a b 3 hb
  rw [upw_4 ha, Nat.zero_div] at h3
  rw [upw_0] at h0
  unfold ofw
  omega
theorem num_word_set (r s : Nat) (hr : r < 18446744073709551616) (hs : s < 18446744073709551616) : (num r).setIfInBounds 0 (uw s) = num s := by
  rw [num_word r hr, num_word s hs]; rfl
theorem wd_small (r : Nat) (hr : r < 18446744073709551616) : wd r 0 = r := by rw [wd_0, Nat.mod_eq_of_lt hr]

/-- Bit by bit: what stands above bit j. -/
def upb (a j : Nat) : Nat := a / 2 ^ j
theorem upb_step (a j : Nat) : upb a j = 2 * upb a (j + 1) + a / 2 ^ j % 2 := by
  unfold upb
  rw [Nat.pow_succ, ← Nat.div_div_eq_div_mul]
  exact (Nat.div_add_mod _ 2).symm
theorem upb_top {a n : Nat} (h : a < 2 ^ n) : upb a n = 0 := Nat.div_eq_of_lt h
theorem upb_0 (a : Nat) : upb a 0 = a := by unfold upb; rw [Nat.pow_zero, Nat.div_one]
theorem bit_mod (r x b m : Nat) (hr : r = x % m) : (2 * r + b) % m = (2 * x + b) % m := by
  rw [hr, Nat.add_mod, Nat.mul_mod, Nat.mod_mod, ← Nat.mul_mod, ← Nat.add_mod]
theorem bit_div (x b m : Nat) (hm : 0 < m) : (2 * x + b) / m = 2 * (x / m) + (2 * (x % m) + b) / m := by
  have h := Nat.div_add_mod x m
  have e : 2 * x + b = (2 * (x % m) + b) + m * (2 * (x / m)) := by
    rw [Nat.mul_left_comm]
    omega
  rw [e, Nat.add_mul_div_left _ _ hm, Nat.add_comm]
theorem bit_le (r b m : Nat) (hr : r < m) (hb : b ≤ 1) : (2 * r + b) / m ≤ 1 := by
  have : (2 * r + b) / m < 2 := by rw [Nat.div_lt_iff_lt_mul (by omega)]; omega
  omega
theorem p64_0 : (2 : Nat) ^ (64 * 0) = 1 := by kernel_rfl
theorem p64_1 : (2 : Nat) ^ (64 * 1) = 18446744073709551616 := by kernel_rfl
theorem p64_2 : (2 : Nat) ^ (64 * 2) = 340282366920938463463374607431768211456 := by kernel_rfl
theorem p64_3 : (2 : Nat) ^ (64 * 3) = 6277101735386680763835789423207666416102355444464034512896 := by kernel_rfl
theorem lin1 {a b c d z B C D q : Nat} (h : a + b * B + c * C + d * D = q) : a + (b + z) * B + c * C + d * D = q + z * B := by rw [Nat.add_mul]; omega
theorem lin2 {a b c d z B C D q : Nat} (h : a + b * B + c * C + d * D = q) : a + b * B + (c + z) * C + d * D = q + z * C := by rw [Nat.add_mul]; omega
theorem lin3 {a b c d z B C D q : Nat} (h : a + b * B + c * C + d * D = q) : a + b * B + c * C + (d + z) * D = q + z * D := by rw [Nat.add_mul]; omega
/-- A bit that was not yet. -/
theorem bit_put (q i s : Nat) (hq : q < big) (hi : i < 256) (hs : s ≤ 1) (hd : q % 2 ^ (i + 1) = 0) :
    wd q (i / 64) % 2 ^ (i % 64 + 1) = 0 ∧ s * 2 ^ (i % 64) < 2 ^ (i % 64 + 1) ∧ wd q (i / 64) + s * 2 ^ (i % 64) < 18446744073709551616 ∧ (num q).setIfInBounds (i / 64) (uw (wd q (i / 64) + s * 2 ^ (i % 64))) = num (q + s * 2 ^ i) := by
  have hR : i % 64 < 64 := Nat.mod_lt _ (by decide)
  have hQ : i / 64 < 4 := by omega
  have hI : i = 64 * (i / 64) + i % 64 := (Nat.div_add_mod i 64).symm
  generalize i / 64 = Q at *
  generalize i % 64 = R at *
  subst hI
  have hdiv : wd q Q % 2 ^ (R + 1) = 0 := by
    unfold wd
    obtain ⟨c, hc⟩ := Nat.dvd_of_mod_eq_zero hd
    have e : 2 ^ (64 * Q + R + 1) = 2 ^ (64 * Q) * 2 ^ (R + 1) := by rw [← Nat.pow_add]; rfl
    have e64 : 18446744073709551616 = 2 ^ (R + 1) * 2 ^ (63 - R) := by rw [← Nat.pow_add, show R + 1 + (63 - R) = 64 by omega]
    rw [hc, e, Nat.mul_assoc, Nat.mul_div_cancel_left _ (Nat.two_pow_pos _), e64, Nat.mod_mod_of_dvd _ (Nat.dvd_mul_right _ _), Nat.mul_mod_right]
  have hw := wd_lt q Q
  have hp := Nat.two_pow_pos R
  have hp1 : 2 ^ (R + 1) = 2 * 2 ^ R := by rw [Nat.pow_succ, Nat.mul_comm]
  have hsb : s * 2 ^ R ≤ 2 ^ R := by
    have : s = 0 ∨ s = 1 := by omega
    rcases this with rfl | rfl <;> omega
  have hle : 2 ^ (R + 1) ≤ 18446744073709551616 := by
    have := Nat.pow_le_pow_right (n := 2) (by omega) (show R + 1 ≤ 64 by omega)
    exact this
  have hlt : wd q Q + 2 ^ (R + 1) ≤ 18446744073709551616 := by
    obtain ⟨c, hc⟩ := Nat.dvd_of_mod_eq_zero hdiv
    have e64 : 18446744073709551616 = 2 ^ (R + 1) * 2 ^ (63 - R) := by rw [← Nat.pow_add, show R + 1 + (63 - R) = 64 by omega]
    rw [hc] at hw ⊢
    rw [e64] at hw ⊢
    have hcl : c < 2 ^ (63 - R) := Nat.lt_of_mul_lt_mul_left hw
    have := Nat.mul_le_mul_left (2 ^ (R + 1)) hcl
    rw [Nat.mul_succ] at this
    exact this
  refine ⟨hdiv, by omega, by omega, ?_⟩
  show (wrow (wd q)).setIfInBounds Q _ = _
  rw [wrow_set _ _ _ hQ]
  have hval : ofw (fun j => if j = Q then wd q Q + s * 2 ^ R else wd q j) = q + s * 2 ^ (64 * Q + R) := by
    have h := ofw_wd hq
    rw [Nat.pow_add, Nat.mul_left_comm, Nat.mul_comm (2 ^ (64 * Q))]
    generalize s * 2 ^ R = z at *
    clear hd hdiv hw hp hp1 hsb hle hlt hi hR
    unfold ofw at h ⊢
    show (if 0 = Q then wd q Q + z else wd q 0) + (if 1 = Q then wd q Q + z else wd q 1) * 18446744073709551616 + (if 2 = Q then wd q Q + z else wd q 2) * 340282366920938463463374607431768211456 + (if 3 = Q then wd q Q + z else wd q 3) * 6277101735386680763835789423207666416102355444464034512896 = _
    have hpw : ∃ P : Nat, P = 2 ^ (64 * Q) ∧ (Q = 0 ∧ P = 1 ∨ Q = 1 ∧ P = 18446744073709551616 ∨ Q = 2 ∧ P = 340282366920938463463374607431768211456 ∨ Q = 3 ∧ P = 6277101735386680763835789423207666416102355444464034512896) := by
      refine ⟨_, rfl, ?_⟩
      rcases four hQ with rfl | rfl | rfl | rfl
      · exact .inl ⟨rfl, p64_0⟩
      · exact .inr (.inl ⟨rfl, p64_1⟩)
      · exact .inr (.inr (.inl ⟨rfl, p64_2⟩))
      · exact .inr (.inr (.inr ⟨rfl, p64_3⟩))
    obtain ⟨P, hP, hc⟩ := hpw
    rw [← hP]
    clear hP
    rcases hc with ⟨h1, h2⟩ | ⟨h1, h2⟩ | ⟨h1, h2⟩ | ⟨h1, h2⟩
    · rw [h1, h2, if_pos rfl, if_neg (by decide), if_neg (by decide), if_neg (by decide)]; omega
    · subst h2
      subst h1
      simp only [if_true, if_false, show ¬ ((0 : Nat) = 1) by decide, show ¬ ((2 : Nat) = 1) by decide, show ¬ ((3 : Nat) = 1) by decide]
      exact lin1 h
    · subst h2
      subst h1
      simp only [if_true, if_false, show ¬ ((0 : Nat) = 2) by decide, show ¬ ((1 : Nat) = 2) by decide, show ¬ ((3 : Nat) = 2) by decide]
      exact lin2 h
    · subst h2
      subst h1
      simp only [if_true, if_false, show ¬ ((0 : Nat) = 3) by decide, show ¬ ((1 : Nat) = 3) by decide, show ¬ ((2 : Nat) = 3) by decide]
      exact lin3 h
  rw [wrow_num (f := fun j => if j = Q then wd q Q + s * 2 ^ R else wd q j), hval]
  intro j _
  show (if j = Q then _ else _) < _
  split
  · omega
  · exact wd_lt q j
theorem or_put (x z k : Nat) (hx : x < 18446744073709551616) (hz : z < 18446744073709551616) (hd : x % 2 ^ k = 0) (hzk : z < 2 ^ k) : bits .or .u64 (x : Int) (z : Int) = ((x + z : Nat) : Int) := by
  obtain ⟨c, hc⟩ := Nat.dvd_of_mod_eq_zero hd
  rw [bits_or_u64_nat x z hx hz]
  congr 1
  rw [hc]
  exact (Nat.two_pow_add_eq_or_of_lt hzk c).symm
end Go.Proofs.Ythdanjbgbbcafaa
