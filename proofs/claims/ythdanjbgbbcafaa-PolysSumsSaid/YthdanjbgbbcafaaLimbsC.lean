/- Long numbers: how many bits, and one of them: walked. -/
import Derived.Test.YthdanjbgbbcafaaLimbsB
namespace Go.Proofs.Ythdanjbgbbcafaa
open Go Go.RowKit

theorem blen_top (lo t k : Nat) (hlo : lo < 2 ^ k) (ht : t ≠ 0) : blen (lo + t * 2 ^ k) = k + blen t := by
  have h1 := blen_le t ht
  have h2 := blen_lt t
  have h3 := blen_pos t ht
  have e1 : 2 ^ (blen t - 1) * 2 ^ k ≤ t * 2 ^ k := Nat.mul_le_mul_right _ h1
  have e2 : (t + 1) * 2 ^ k ≤ 2 ^ blen t * 2 ^ k := Nat.mul_le_mul_right _ h2
  rw [← Nat.pow_add] at e1 e2
  rw [Nat.add_mul] at e2
  have := blen_of (lo + t * 2 ^ k) (blen t - 1 + k) (by omega) (by rw [show blen t - 1 + k + 1 = blen t + k by omega]; omega)
  omega
theorem blen_big (a : Nat) (h : a < big) : blen a ≤ 256 := blen_most a 256 (by rw [← big_pow]; exact h)
theorem bits_word {a m : Nat} (ha : a < big) (hm : m < 4) (hz : ∀ j, m < j → j < 4 → wd a j = 0) (h0 : wd a m ≠ 0) : blen a = 64 * m + blen (wd a m) := by
  have h := ofw_wd ha
  have l0 := wd_lt a 0
  have l1 := wd_lt a 1
  have l2 := wd_lt a 2
  have l3 := wd_lt a 3
  unfold ofw at h
  rcases four hm with rfl | rfl | rfl | rfl
  · have z1 := hz 1 (by omega) (by omega)
    have z2 := hz 2 (by omega) (by omega)
    have z3 := hz 3 (by omega) (by omega)
    have := blen_top 0 (wd a 0) 0 (by decide) h0
    rw [show 0 + wd a 0 * 2 ^ 0 = a by omega] at this
    omega
  · have z2 := hz 2 (by omega) (by omega)
    have z3 := hz 3 (by omega) (by omega)
    have := blen_top (wd a 0) (wd a 1) 64 (by omega) h0
    rw [show wd a 0 + wd a 1 * 2 ^ 64 = a by omega] at this
    omega
  · have z3 := hz 3 (by omega) (by omega)
    have := blen_top (wd a 0 + wd a 1 * 18446744073709551616) (wd a 2) 128 (by omega) h0
    rw [show wd a 0 + wd a 1 * 18446744073709551616 + wd a 2 * 2 ^ 128 = a by omega] at this
    omega
  · have := blen_top (wd a 0 + wd a 1 * 18446744073709551616 + wd a 2 * 340282366920938463463374607431768211456) (wd a 3) 192 (by omega) h0
    rw [show wd a 0 + wd a 1 * 18446744073709551616 + wd a 2 * 340282366920938463463374607431768211456 + wd a 3 * 2 ^ 192 = a by omega] at this
    omega
theorem bits_zero {a : Nat} (ha : a < big) (hz : ∀ j, j < 4 → wd a j = 0) : a = 0 := by
  have h := ofw_wd ha
  unfold ofw at h
  have z0 := hz 0 (by omega)
  have z1 := hz 1 (by omega)
  have z2 := hz 2 (by omega)
  have z3 := hz 3 (by omega)
  omega
theorem bit_word (a i : Nat) : wd a (i / 64) / 2 ^ (i % 64) % 2 = a / 2 ^ i % 2 := by
  unfold wd
  have hr : i % 64 < 64 := Nat.mod_lt _ (by decide)
  have hi : 2 ^ i = 2 ^ (64 * (i / 64)) * 2 ^ (i % 64) := by rw [← Nat.pow_add, Nat.div_add_mod]
  rw [hi, ← Nat.div_div_eq_div_mul]
  generalize a / 2 ^ (64 * (i / 64)) = x
  generalize i % 64 = r at *
  have e : 18446744073709551616 = 2 ^ r * 2 ^ (64 - r) := by rw [← Nat.pow_add, Nat.add_sub_cancel' (by omega)]
  rw [e, Nat.mod_mul_right_div_self, Nat.mod_mod_of_dvd]
  obtain ⟨m, hm⟩ : ∃ m, 64 - r = m + 1 := ⟨63 - r, by omega⟩
  rw [hm, Nat.pow_succ]
  exact Nat.dvd_mul_left 2 _
def BitsRel (w : World) (a : Nat) (t24 : TypeId) (vi : Value) (wr : World) : Prop :=
  ((vi = .int .i64 (-1) ∧ ∀ j, j < 4 → wd a j = 0) ∨ ∃ m : Nat, m < 4 ∧ vi = .int .i64 (m : Int) ∧ ∀ j, m < j → j < 4 → wd a j = 0) ∧ Below w.heap.size w wr ∧ Blk wr w.heap.size t24 (num a)
set_option maxHeartbeats 1000000 in
theorem lbits_any (a : Nat) (ha : a < big) (w : World) : Calls Try.prog 31 #[.agg (num a)] w (IntEnds w (blen a)) := by
  have HA := hide ha
  clear ha
  go_enter Try.func31, Try.ntmps31
  go_wp2_with fail
  have A1 := Blk.new w 24 (num a)
  have L1 : Below w.heap.size w (w.alloc (.cells (num a) 24)) := (Below.refl _ _).alloc (Nat.le_refl _) _
  generalize w.alloc (.cells (num a) 24) = w1 at *
  go_loopw [3] (fun vi wr => BitsRel w a 24 vi wr) (fun i _ => (intOf i + 1).toNat)
  case atStart => exact ⟨.inr ⟨3, by omega, rfl, fun j h1 h2 => by omega⟩, L1, A1⟩
  case round =>
    clear L1 A1
    obtain ⟨hc, L, B⟩ := hrel
    have HL := hide L
    have HB := hide B
    clear L
    rcases hc with ⟨rfl, hz⟩ | ⟨m, hm, rfl, hz⟩
    · have h0 := bits_zero HA.out hz
      have HZ := hide h0
      clear hz h0 B
      go_wp2_with fail
      go_ret
      exact ⟨by rw [HZ.out]; rfl, HL.out⟩
    · have hcell := (B.cell m).trans (num_at a m hm)
      have HZ := hide hz
      have hw := wd_lt a m
      clear B hz
      by_cases h0 : wd a m = 0
      · have H0 := hide h0
        rw [h0] at hcell
        clear h0
        go_wp2_with fail
        go_roundw
        case rel =>
          refine ⟨?_, HL.out, HB.out⟩
          have hall : ∀ j, m ≤ j → j < 4 → wd a j = 0 := fun j h1 h2 => by
            rcases Nat.lt_or_ge m j with h | h
            · exact HZ.out j h h2
            · rw [show j = m by omega]; exact H0.out
          rcases Nat.eq_zero_or_pos m with hm0 | hm0
          · subst hm0
            exact .inl ⟨rfl, fun j h => hall j (by omega) h⟩
          · exact .inr ⟨m - 1, by omega, by rw [Int.natCast_sub hm0]; rfl, fun j h1 h2 => hall j (by omega) h2⟩
        case measure => simp [intOf]
      · have hb := bits_word HA.out hm HZ.out h0
        have HBL := hide hb
        have hbl := blen_le64 _ hw
        have hlen := fun w => len64_any (wd a m) w hw
        have HLEN := hide hlen
        have hpos : (0 : Int) < (wd a m : Int) := by omega
        clear hb h0 hlen
        go_wp2_with fail
        with_reducible refine (HLEN.out _).mono ?_
        rintro e w2 ⟨rfl, rfl⟩
        go_wp2_with fail
        go_ret
        exact ⟨by rw [HBL.out, Int.natCast_add, Int.natCast_mul]; rfl, HL.out⟩
theorem and_one (x : Nat) (h : x < 18446744073709551616) : bits .and .u64 (x : Int) 1 = ((x % 2 : Nat) : Int) := by
  have h1 := bits_and_u64_nat x 1 h (by decide)
  rw [Nat.and_one_is_mod] at h1
  exact h1
set_option maxHeartbeats 1000000 in
theorem lbit_any (a i : Nat) (hi : i < 256) (w : World) : Calls Try.prog 82 #[.agg (num a), .int .i64 (i : Int)] w (WordEnds w (a / 2 ^ i % 2)) := by
  obtain ⟨q, hq⟩ : ∃ q : Nat, q = i / 64 := ⟨_, rfl⟩
  obtain ⟨r, hr⟩ : ∃ r : Nat, r = i % 64 := ⟨_, rfl⟩
  obtain ⟨x, hx⟩ : ∃ x : Nat, x = wd a q := ⟨_, rfl⟩
  have hxl := wd_lt a q
  obtain ⟨y, hy⟩ : ∃ y : Nat, y = x / 2 ^ r := ⟨_, rfl⟩
  obtain ⟨z, hz⟩ : ∃ z : Nat, z = y % 2 := ⟨_, rfl⟩
  have hyx : y ≤ x := by rw [hy]; exact Nat.div_le_self _ _
  have e1 : (i : Int) / 64 = (q : Int) := by rw [hq]; omega
  have e2 : (i : Int) % 64 = (r : Int) := by rw [hr]; omega
  have e3 : (x : Int) / 2 ^ r = (y : Int) := by rw [hy, Int.natCast_ediv, Int.natCast_pow]; rfl
  have e4 : bits .and .u64 (y : Int) 1 = (z : Int) := by rw [hz]; exact and_one y (by rw [← hx] at hxl; omega)
  have hq4 : q < 4 := by omega
  have hr64 : r < 64 := by omega
  have hres : a / 2 ^ i % 2 = z := by rw [hz, hy, hx, hq, hr]; exact (bit_word a i).symm
  rw [hres]
  have hat := num_at a q hq4
  rw [← hx] at hat hxl
  clear hres hz hy hq hr hx
  go_enter Try.func82, Try.ntmps82
  go_upto_region 1 with fail
  have A1 := Blk.new w 24 (num a)
  have L1 : Below w.heap.size w (w.alloc (.cells (num a) 24)) := (Below.refl _ _).alloc (Nat.le_refl _) _
  change Code.wp _ _ _ _ (w.alloc (.cells (num a) 24))
  generalize w.alloc (.cells (num a) 24) = w1 at *
  have hcell := (A1.cell q).trans hat
  have HL := hide L1
  clear A1 L1 hat
  go_wp2_with fail
  go_ret
  exact ⟨rfl, HL.out⟩
end Go.Proofs.Ythdanjbgbbcafaa
