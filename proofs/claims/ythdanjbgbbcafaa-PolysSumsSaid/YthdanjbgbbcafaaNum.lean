/- Long numbers as four words: plain mathematics, and the rows that hold them. -/
import Derived.Test.YthdanjbgbbcafaaDiv64
import Derived.Test.YthdanjbgbbcafaaCut
import Derived.Laws.ResultCell
import Derived.Deep.MidRow
namespace Go.Proofs.Ythdanjbgbbcafaa
open Go Go.RowKit

/-- One more than the greatest long number. -/
def big : Nat := 115792089237316195423570985008687907853269984665640564039457584007913129639936
theorem big_pow : big = 2 ^ 256 := by decide
theorem big_pos : 0 < big := by decide
/-- The words of a number. -/
def wd (n i : Nat) : Nat := n / 2 ^ (64 * i) % 18446744073709551616
theorem wd_lt (n i : Nat) : wd n i < 18446744073709551616 := Nat.mod_lt _ (by decide)
theorem wd_0 (n : Nat) : wd n 0 = n % 18446744073709551616 := by unfold wd; rw [Nat.mul_zero, Nat.pow_zero, Nat.div_one]
theorem wd_1 (n : Nat) : wd n 1 = n / 18446744073709551616 % 18446744073709551616 := rfl
theorem wd_2 (n : Nat) : wd n 2 = n / 340282366920938463463374607431768211456 % 18446744073709551616 := rfl
theorem wd_3 (n : Nat) : wd n 3 = n / 6277101735386680763835789423207666416102355444464034512896 % 18446744073709551616 := rfl
/-- A number out of four words. -/
def ofw (f : Nat → Nat) : Nat := f 0 + f 1 * 18446744073709551616 + f 2 * 340282366920938463463374607431768211456 + f 3 * 6277101735386680763835789423207666416102355444464034512896
theorem ofw_wd {n : Nat} (h : n < big) : ofw (wd n) = n := by
  unfold big at h
  unfold ofw
  rw [wd_0, wd_1, wd_2, wd_3]
  omega
theorem ofw_lt {f : Nat → Nat} (h : ∀ i, i < 4 → f i < 18446744073709551616) : ofw f < big := by
  have h0 := h 0 (by omega)
  have h1 := h 1 (by omega)
  have h2 := h 2 (by omega)
  have h3 := h 3 (by omega)
  unfold ofw big
  omega
theorem four {i : Nat} (h : i < 4) : i = 0 ∨ i = 1 ∨ i = 2 ∨ i = 3 := by omega
theorem wd_ofw {f : Nat → Nat} (h : ∀ i, i < 4 → f i < 18446744073709551616) (i : Nat) (hi : i < 4) : wd (ofw f) i = f i := by
  have h0 := h 0 (by omega)
  have h1 := h 1 (by omega)
  have h2 := h 2 (by omega)
  have h3 := h 3 (by omega)
  rcases four hi with rfl | rfl | rfl | rfl
  · rw [wd_0]; unfold ofw; omega
  · rw [wd_1]; unfold ofw; omega
  · rw [wd_2]; unfold ofw; omega
  · rw [wd_3]; unfold ofw; omega
theorem wd_inj {a b : Nat} (ha : a < big) (hb : b < big) (h : ∀ i, i < 4 → wd a i = wd b i) : a = b := by
  rw [← ofw_wd ha, ← ofw_wd hb]
  unfold ofw
  rw [h 0 (by omega), h 1 (by omega), h 2 (by omega), h 3 (by omega)]
/-- A row of four words. -/
def wrow (f : Nat → Nat) : Array Value := #[uw (f 0), uw (f 1), uw (f 2), uw (f 3)]
/-- A long number's row. -/
def num (n : Nat) : Array Value := wrow (wd n)
theorem wrow_congr {f g : Nat → Nat} (h : ∀ i, i < 4 → f i = g i) : wrow f = wrow g := by
  unfold wrow
  rw [h 0 (by omega), h 1 (by omega), h 2 (by omega), h 3 (by omega)]
theorem wrow_num {f : Nat → Nat} (h : ∀ i, i < 4 → f i < 18446744073709551616) : wrow f = num (ofw f) :=
  wrow_congr fun i hi => (wd_ofw h i hi).symm
theorem wrow_at (f : Nat → Nat) (i : Nat) (h : i < 4) : (wrow f)[i]? = some (uw (f i)) := by
  rcases four h with rfl | rfl | rfl | rfl <;> rfl
theorem wrow_set (f : Nat → Nat) (k v : Nat) (h : k < 4) : (wrow f).setIfInBounds k (uw v) = wrow (fun i => if i = k then v else f i) := by
  rcases four h with rfl | rfl | rfl | rfl <;> rfl
theorem wrow_size (f : Nat → Nat) : (wrow f).size = 4 := rfl
theorem wrow_one (f : Nat → Nat) : (wrow f).all (·.oneCell') = true := by simp [wrow, Value.oneCell']
theorem num_at (n i : Nat) (h : i < 4) : (num n)[i]? = some (uw (wd n i)) := wrow_at _ i h
theorem num_size (n : Nat) : (num n).size = 4 := rfl
theorem num_one (n : Nat) : (num n).all (·.oneCell') = true := wrow_one _
theorem num_word (n : Nat) (h : n < 18446744073709551616) : num n = #[uw n, uw 0, uw 0, uw 0] := by
  unfold num wrow
  rw [wd_0, wd_1, wd_2, wd_3, Nat.mod_eq_of_lt h, Nat.div_eq_of_lt h, Nat.div_eq_of_lt (by omega), Nat.div_eq_of_lt (by omega)]
theorem num_zero : num 0 = #[uw 0, uw 0, uw 0, uw 0] := num_word 0 (by decide)
theorem num_inj {a b : Nat} (ha : a < big) (hb : b < big) (h : num a = num b) : a = b := by
  refine wd_inj ha hb fun i hi => ?_
  have h1 := num_at a i hi
  rw [h, num_at b i hi] at h1
  injection h1 with h1
  injection h1 with _ h1
  exact (Int.ofNat_inj.1 h1).symm
/-- The first k words done, the others not yet. -/
def part_ (f : Nat → Nat) (k i : Nat) : Nat := if i < k then f i else 0
theorem part_zero (f : Nat → Nat) : wrow (part_ f 0) = num 0 := by
  rw [num_zero]; rfl
theorem part_set (f : Nat → Nat) (k : Nat) (h : k < 4) : (wrow (part_ f k)).setIfInBounds k (uw (f k)) = wrow (part_ f (k + 1)) := by
  rw [wrow_set _ _ _ h]
  refine wrow_congr fun i _ => ?_
  unfold part_
  by_cases h1 : i = k
  · subst h1; rw [if_pos rfl, if_pos (by omega)]
  · rw [if_neg h1]
    by_cases h2 : i < k
    · rw [if_pos h2, if_pos (by omega)]
    · rw [if_neg h2, if_neg (by omega)]
theorem part_full (f : Nat → Nat) : wrow (part_ f 4) = wrow f := wrow_congr fun i hi => by unfold part_; rw [if_pos hi]

/-- Sums, word by word. -/
def cAdd (a b : Nat) : Nat → Nat
  | 0 => 0
  | k + 1 => (wd a k + wd b k + cAdd a b k) / 18446744073709551616
def sAdd (a b k : Nat) : Nat := (wd a k + wd b k + cAdd a b k) % 18446744073709551616
theorem cAdd_le (a b : Nat) : ∀ k, cAdd a b k ≤ 1
  | 0 => Nat.zero_le _
  | k + 1 => by
    have h := cAdd_le a b k
    have h1 := wd_lt a k
    have h2 := wd_lt b k
    show (wd a k + wd b k + cAdd a b k) / 18446744073709551616 ≤ 1
    omega
theorem add_four (a b : Nat) : ofw (sAdd a b) + cAdd a b 4 * big = ofw (wd a) + ofw (wd b) := by
  have e1 : cAdd a b 1 = (wd a 0 + wd b 0) / 18446744073709551616 := rfl
  have e2 : cAdd a b 2 = (wd a 1 + wd b 1 + cAdd a b 1) / 18446744073709551616 := rfl
  have e3 : cAdd a b 3 = (wd a 2 + wd b 2 + cAdd a b 2) / 18446744073709551616 := rfl
  have e4 : cAdd a b 4 = (wd a 3 + wd b 3 + cAdd a b 3) / 18446744073709551616 := rfl
  have s0 : sAdd a b 0 = (wd a 0 + wd b 0) % 18446744073709551616 := rfl
  have s1 : sAdd a b 1 = (wd a 1 + wd b 1 + cAdd a b 1) % 18446744073709551616 := rfl
  have s2 : sAdd a b 2 = (wd a 2 + wd b 2 + cAdd a b 2) % 18446744073709551616 := rfl
  have s3 : sAdd a b 3 = (wd a 3 + wd b 3 + cAdd a b 3) % 18446744073709551616 := rfl
  unfold ofw big
  omega
theorem sAdd_lt (a b k : Nat) : sAdd a b k < 18446744073709551616 := Nat.mod_lt _ (by decide)
theorem add_sum {a b : Nat} (ha : a < big) (hb : b < big) : ofw (sAdd a b) = (a + b) % big ∧ cAdd a b 4 = (a + b) / big := by
  have h := add_four a b
  rw [ofw_wd ha, ofw_wd hb] at h
  have h1 := ofw_lt (f := sAdd a b) (fun i _ => sAdd_lt a b i)
  have h2 := cAdd_le a b 4
  unfold big at *
  omega
/-- Differences, word by word. -/
def cSub (a b : Nat) : Nat → Nat
  | 0 => 0
  | k + 1 => if wd a k < wd b k + cSub a b k then 1 else 0
def sSub (a b k : Nat) : Nat := (wd a k + 18446744073709551616 - wd b k - cSub a b k) % 18446744073709551616
theorem cSub_le (a b : Nat) : ∀ k, cSub a b k ≤ 1
  | 0 => Nat.zero_le _
  | k + 1 => by
    show (if wd a k < wd b k + cSub a b k then 1 else 0) ≤ 1
    split <;> omega
theorem sub_step (x y c d s : Nat) (hx : x < 18446744073709551616) (hy : y < 18446744073709551616) (hc : c ≤ 1) (hd : d = if x < y + c then 1 else 0) (hs : s = (x + 18446744073709551616 - y - c) % 18446744073709551616) :
    s + y + c = x + d * 18446744073709551616 ∧ d ≤ 1 ∧ s < 18446744073709551616 := by
  split at hd <;> omega
theorem sub_four (a b : Nat) : ofw (sSub a b) + ofw (wd b) = ofw (wd a) + cSub a b 4 * big := by
  obtain ⟨p0, _, _⟩ := sub_step _ _ _ _ _ (wd_lt a 0) (wd_lt b 0) (cSub_le a b 0) rfl rfl
  obtain ⟨p1, _, _⟩ := sub_step _ _ _ _ _ (wd_lt a 1) (wd_lt b 1) (cSub_le a b 1) rfl rfl
  obtain ⟨p2, _, _⟩ := sub_step _ _ _ _ _ (wd_lt a 2) (wd_lt b 2) (cSub_le a b 2) rfl rfl
  obtain ⟨p3, _, _⟩ := sub_step _ _ _ _ _ (wd_lt a 3) (wd_lt b 3) (cSub_le a b 3) rfl rfl
  change sSub a b 0 + wd b 0 + 0 = wd a 0 + cSub a b 1 * _ at p0
  change sSub a b 1 + wd b 1 + cSub a b 1 = wd a 1 + cSub a b 2 * _ at p1
  change sSub a b 2 + wd b 2 + cSub a b 2 = wd a 2 + cSub a b 3 * _ at p2
  change sSub a b 3 + wd b 3 + cSub a b 3 = wd a 3 + cSub a b 4 * _ at p3
  unfold ofw big
  omega
theorem sSub_lt (a b k : Nat) : sSub a b k < 18446744073709551616 := Nat.mod_lt _ (by decide)
theorem sub_dif {a b : Nat} (ha : a < big) (hb : b < big) : ofw (sSub a b) = (a + big - b) % big ∧ cSub a b 4 = if a < b then 1 else 0 := by
  have h := sub_four a b
  rw [ofw_wd ha, ofw_wd hb] at h
  have h1 := ofw_lt (f := sSub a b) (fun i _ => sSub_lt a b i)
  have h2 := cSub_le a b 4
  generalize cSub a b 4 = c at *
  generalize ofw (sSub a b) = s at *
  unfold big at *
  have : c = 0 ∨ c = 1 := by omega
  rcases this with rfl | rfl
  · rw [if_neg (by omega)]; omega
  · rw [if_pos (by omega)]; omega
attribute [irreducible] wd ofw big
end Go.Proofs.Ythdanjbgbbcafaa
