/- A product of two words and two words more; a product by words: plain mathematics, and limbs.times walked. -/
import Derived.Test.YthdanjbgbbcafaaLimbsC
namespace Go.Proofs.Ythdanjbgbbcafaa
open Go Go.RowKit

theorem Blk.far2 {w : World} {g b i : Nat} {t : TypeId} {cs : Array Value} (h : Blk w g t cs) (hne : g ≠ b) (u : Value) : Blk (w.setCell ⟨b, i, none⟩ u) g t cs := h.far (p := ⟨b, i, none⟩) hne u
theorem below_cell2 {B : Nat} {a w : World} (h : Below B a w) {b i : Nat} (hb : B ≤ b) (u : Value) : Below B a (w.setCell ⟨b, i, none⟩ u) := h.setCell (p := ⟨b, i, none⟩) hb u
theorem times_law (a b s m : Nat) (ha : a < 18446744073709551616) (hb : b < 18446744073709551616) (hs : s < 18446744073709551616) (hm : m < 18446744073709551616) :
    ∃ hi lo c1 l1 c2 l2 : Nat, hi = a * b / 18446744073709551616 ∧ lo = a * b % 18446744073709551616 ∧ l1 = (lo + s + 0) % 18446744073709551616 ∧ c1 = (lo + s + 0) / 18446744073709551616 ∧
      l2 = (l1 + m + 0) % 18446744073709551616 ∧ c2 = (l1 + m + 0) / 18446744073709551616 ∧ c1 ≤ 1 ∧ c2 ≤ 1 ∧ hi + c1 + c2 < 18446744073709551616 ∧
      l2 = (a * b + s + m) % 18446744073709551616 ∧ hi + c1 + c2 = (a * b + s + m) / 18446744073709551616 := by
  have hp : a * b ≤ 18446744073709551615 * 18446744073709551615 := Nat.mul_le_mul (by omega) (by omega)
  generalize a * b = P at *
  exact ⟨_, _, _, _, _, _, rfl, rfl, rfl, rfl, rfl, rfl, by omega, by omega, by omega, by omega, by omega⟩
set_option maxHeartbeats 1000000 in
theorem ltimes_any (a b s m : Nat) (ha : a < 18446744073709551616) (hb : b < 18446744073709551616) (hs : s < 18446744073709551616) (hm : m < 18446744073709551616) (w : World) :
    Calls Try.prog 89 #[uw a, uw b, uw s, uw m] w fun e w' => e = .returned (.tuple #[uw ((a * b + s + m) % 18446744073709551616), uw ((a * b + s + m) / 18446744073709551616)]) ∧ w = w' := by
  obtain ⟨hi, lo, c1, l1, c2, l2, e1, e2, e3, e4, e5, e6, h1, h2, h3, e7, e8⟩ := times_law a b s m ha hb hs hm
  have hmul := fun w => mul64_any a b ha hb w
  rw [← e1, ← e2] at hmul
  have r1 : ∀ w, (callFunc 73 #[uw lo, uw s, .int .u64 0]).run Try.prog w = .ok (.value (.tuple #[uw l1, uw c1])) w := fun w => by rw [e3, e4]; exact add64_run lo s 0 (by omega) w
  have r2 : ∀ w, (callFunc 73 #[uw l1, uw m, .int .u64 0]).run Try.prog w = .ok (.value (.tuple #[uw l2, uw c2])) w := fun w => by rw [e5, e6]; exact add64_run l1 m 0 (by omega) w
  rw [← e7, ← e8]
  have HM := hide hmul
  clear e1 e2 e3 e4 e5 e6 e7 e8 hmul
  go_enter Try.func89, Try.ntmps89
  go_wp2_with fail
  with_reducible refine (HM.out _).mono ?_
  rintro e w' ⟨rfl, rfl⟩
  go_wp2_with fail
  go_ret2
  exact ⟨by rw [show uw (hi + c1 + c2) = Value.int .u64 ((hi : Int) + (c1 : Int) + (c2 : Int)) by simp only [uw, Int.natCast_add]]; rfl, rfl⟩

/-- What words tell. -/
def val (f : Nat → Nat) : Nat → Nat
  | 0 => 0
  | n + 1 => val f n + f n * 18446744073709551616 ^ n
def upd (f : Nat → Nat) (j v : Nat) (i : Nat) : Nat := if i = j then v else f i
theorem val_congr {f g : Nat → Nat} : ∀ {n : Nat}, (∀ i, i < n → f i = g i) → val f n = val g n
  | 0, _ => rfl
  | n + 1, h => by
    show val f n + f n * _ = val g n + g n * _
    rw [val_congr (fun i hi => h i (by omega)), h n (by omega)]
theorem val_upd (f : Nat → Nat) (j v : Nat) : ∀ {n : Nat}, j < n → val (upd f j v) n + f j * 18446744073709551616 ^ j = val f n + v * 18446744073709551616 ^ j
  | 0, h => absurd h (by omega)
  | n + 1, h => by
    show val (upd f j v) n + upd f j v n * _ + _ = val f n + f n * _ + _
    by_cases e : n = j
    · subst e
      rw [val_congr (g := f) (fun i hi => by unfold upd; rw [if_neg (by omega)])]
      unfold upd
      rw [if_pos rfl]
      omega
    · have ih := val_upd f j v (n := n) (by omega)
      rw [show upd f j v n = f n by unfold upd; rw [if_neg e]]
      omega
theorem val_le {f : Nat → Nat} (h : ∀ i, f i < 18446744073709551616) : ∀ n, val f n < 18446744073709551616 ^ n
  | 0 => Nat.one_pos
  | n + 1 => by
    have ih := val_le h n
    have h1 : (f n + 1) * 18446744073709551616 ^ n ≤ 18446744073709551616 * 18446744073709551616 ^ n := Nat.mul_le_mul_right _ (h n)
    rw [Nat.add_mul, Nat.one_mul] at h1
    show val f n + f n * 18446744073709551616 ^ n < 18446744073709551616 ^ (n + 1)
    rw [Nat.pow_succ, Nat.mul_comm _ 18446744073709551616]
    omega
theorem val_four (f : Nat → Nat) : val f 4 = ofw f := by
  unfold ofw
  show ((0 + f 0 * 18446744073709551616 ^ 0 + f 1 * 18446744073709551616 ^ 1) + f 2 * 18446744073709551616 ^ 2) + f 3 * 18446744073709551616 ^ 3 = _
  rw [show (18446744073709551616 : Nat) ^ 0 = 1 from rfl, show (18446744073709551616 : Nat) ^ 1 = 18446744073709551616 by decide, show (18446744073709551616 : Nat) ^ 2 = 340282366920938463463374607431768211456 by decide, show (18446744073709551616 : Nat) ^ 3 = 6277101735386680763835789423207666416102355444464034512896 by decide]
  omega
theorem val_split (f : Nat → Nat) (m : Nat) : ∀ n, val f (m + n) = val f m + val (fun i => f (m + i)) n * 18446744073709551616 ^ m
  | 0 => by show val f m = val f m + 0 * _; omega
  | n + 1 => by
    show val f (m + n) + f (m + n) * 18446744073709551616 ^ (m + n) = val f m + (val (fun i => f (m + i)) n + f (m + n) * 18446744073709551616 ^ n) * _
    rw [val_split f m n, Nat.add_mul, Nat.mul_assoc (f (m + n)), ← Nat.pow_add, Nat.add_comm n m]
    omega
/-- Behind i words of the one number. -/
structure MulInv (a b i : Nat) (f : Nat → Nat) : Prop where
  low : ∀ j, f j < 18446744073709551616
  zero : ∀ j, i + 4 ≤ j → f j = 0
  val : val f 8 = val (wd a) i * val (wd b) 4
/-- .. and k of the other one. -/
structure MulIn (a b i : Nat) (f0 : Nat → Nat) (k : Nat) (f : Nat → Nat) (m : Nat) : Prop where
  low : ∀ j, f j < 18446744073709551616
  zero : ∀ j, i + 4 ≤ j → f j = 0
  more : m < 18446744073709551616
  val : val f 8 + m * 18446744073709551616 ^ (i + k) = val f0 8 + wd a i * 18446744073709551616 ^ i * val (wd b) k
theorem mul_begin (a b : Nat) : MulInv a b 0 (fun _ => 0) :=
  ⟨fun _ => by decide, fun _ _ => rfl, by show _ = 0 * _; rw [Nat.zero_mul]; rfl⟩
theorem mul_in (a b i : Nat) {f : Nat → Nat} (h : MulInv a b i f) : MulIn a b i f 0 f 0 :=
  ⟨h.low, h.zero, by decide, by show _ + 0 * _ = _ + _ * 0; omega⟩
theorem mul_step {a b i k m : Nat} {f0 f : Nat → Nat} (h : MulIn a b i f0 k f m) (hi : i < 4) (hk : k < 4) :
    MulIn a b i f0 (k + 1) (upd f (i + k) ((wd a i * wd b k + f (i + k) + m) % 18446744073709551616)) ((wd a i * wd b k + f (i + k) + m) / 18446744073709551616) := by
  have hp : wd a i * wd b k ≤ 18446744073709551615 * 18446744073709551615 := Nat.mul_le_mul (by have := wd_lt a i; omega) (by have := wd_lt b k; omega)
  have h1 := h.low (i + k)
  have h2 := h.more
  have hv := val_upd f (i + k) ((wd a i * wd b k + f (i + k) + m) % 18446744073709551616) (n := 8) (by omega)
  have hval := h.val
  have e : wd a i * 18446744073709551616 ^ i * val (wd b) (k + 1) = wd a i * 18446744073709551616 ^ i * val (wd b) k + wd a i * wd b k * 18446744073709551616 ^ (i + k) := by
    show wd a i * 18446744073709551616 ^ i * (val (wd b) k + wd b k * 18446744073709551616 ^ k) = _
    rw [Nat.mul_add, Nat.pow_add, Nat.mul_mul_mul_comm]
  have hd : ((wd a i * wd b k + f (i + k) + m) / 18446744073709551616 * 18446744073709551616 + (wd a i * wd b k + f (i + k) + m) % 18446744073709551616) * 18446744073709551616 ^ (i + k) = (wd a i * wd b k + f (i + k) + m) * 18446744073709551616 ^ (i + k) := by
    rw [Nat.mul_comm (_ / _), Nat.div_add_mod]
  have hq : (wd a i * wd b k + f (i + k) + m) / 18446744073709551616 < 18446744073709551616 := by omega
  refine ⟨fun j => ?_, fun j hj => ?_, hq, ?_⟩
  · unfold upd
    split
    · exact Nat.mod_lt _ (by decide)
    · exact h.low j
  · unfold upd
    rw [if_neg (by omega)]
    exact h.zero j hj
  · rw [e, show i + (k + 1) = i + k + 1 by omega, Nat.pow_succ, Nat.mul_comm (18446744073709551616 ^ (i + k)), ← Nat.mul_assoc]
    rw [Nat.add_mul, Nat.add_mul, Nat.add_mul] at hd
    omega
theorem mul_end {a b i m : Nat} {f0 f : Nat → Nat} (h0 : MulInv a b i f0) (h : MulIn a b i f0 4 f m) (hi : i < 4) : MulInv a b (i + 1) (upd f (i + 4) m) := by
  have hv := val_upd f (i + 4) m (n := 8) (by omega)
  rw [h.zero _ (Nat.le_refl _), Nat.zero_mul, Nat.add_zero] at hv
  refine ⟨fun j => ?_, fun j hj => ?_, ?_⟩
  · unfold upd
    split
    · exact h.more
    · exact h.low j
  · unfold upd
    rw [if_neg (by omega)]
    exact h.zero j (by omega)
  · rw [hv, h.val, h0.val]
    show _ = (val (wd a) i + wd a i * 18446744073709551616 ^ i) * _
    rw [Nat.add_mul]
theorem mul_done {a b : Nat} (ha : a < big) (hb : b < big) {f : Nat → Nat} (h : MulInv a b 4 f) : ofw f = a * b % big ∧ ofw (fun i => f (4 + i)) = a * b / big := by
  have hv := h.val
  rw [val_four, val_four, ofw_wd ha, ofw_wd hb, val_split f 4 4, val_four, val_four] at hv
  have e : (18446744073709551616 : Nat) ^ 4 = big := by unfold big; decide
  rw [e] at hv
  have hl := ofw_lt (f := f) (fun i _ => h.low i)
  rw [← hv, Nat.mul_comm (ofw fun i => f (4 + i)) big, Nat.add_mul_mod_self_left, Nat.add_mul_div_left _ _ big_pos, Nat.mod_eq_of_lt hl, Nat.div_eq_of_lt hl, Nat.zero_add]
  exact ⟨rfl, rfl⟩
end Go.Proofs.Ythdanjbgbbcafaa
