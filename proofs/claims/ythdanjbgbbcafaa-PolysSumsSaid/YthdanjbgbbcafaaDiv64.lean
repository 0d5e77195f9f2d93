/- The library's division of two words by one: walked. -/
import Derived.Test.YthdanjbgbbcafaaKnuth
namespace Go.Proofs.Ythdanjbgbbcafaa
open Go Go.RowKit

theorem or_shl (h c k : Nat) (hh : h * 2 ^ k < 18446744073709551616) (hc : c < 2 ^ k) (hk : k < 64) : bits .or .u64 ((h * 2 ^ k : Nat) : Int) (c : Int) = ((h * 2 ^ k + c : Nat) : Int) := by
  have h2 : 2 ^ k ≤ 18446744073709551616 := by
    have := Nat.pow_le_pow_right (n := 2) (by omega) (Nat.le_of_lt hk)
    exact this
  rw [bits_or_u64_nat _ _ hh (by omega)]
  congr 1
  rw [Nat.mul_comm, ← Nat.two_pow_add_eq_or_of_lt hc]
def Div64Ends (w : World) (q r : Nat) (e : Ending) (w' : World) : Prop := e = .returned (.tuple #[uw q, uw r]) ∧ Below w.heap.size w w'
set_option maxHeartbeats 1000000 in
theorem div64_low (lo y : Nat) (hlo : lo < 18446744073709551616) (hy : y < 18446744073709551616) (h0 : 0 < y) (w : World) :
    Calls Try.prog 80 #[uw 0, uw lo, uw y] w (Div64Ends w (lo / y) (lo % y)) := by
  obtain ⟨q, hq⟩ : ∃ q : Nat, q = lo / y := ⟨_, rfl⟩
  obtain ⟨r, hr⟩ : ∃ r : Nat, r = lo % y := ⟨_, rfl⟩
  have e1 : (lo : Int) / (y : Int) = (q : Int) := by rw [hq]; exact (Int.natCast_ediv lo y).symm
  have e2 : (lo : Int) % (y : Int) = (r : Int) := by rw [hr]; exact (Int.natCast_emod lo y).symm
  have hqm : q ≤ lo := by rw [hq]; exact Nat.div_le_self _ _
  have hyz : ¬ (y : Int) = 0 := by omega
  rw [← hq, ← hr]
  clear hq hr
  go_enter Try.func80, Try.ntmps80
  go_wp2_with fail
  refine wp_region_kinds 8 (by kernel_rfl) (by kernel_rfl) (fun F hF => ?_)
  repeat (first
    | refine kinds_move_is _ rfl (Or.inl rfl) rfl ?_
    | refine kinds_move_is _ rfl (Or.inr rfl) rfl ?_
    | refine kinds_off rfl rfl rfl rfl ?_
    | refine kinds_off' rfl rfl rfl ?_
    | ((first | refine kinds_on rfl rfl rfl ?_ | skip)
       apply kinds_is rfl
       · intro ρ wv K hw hf hK
         first | obtain ⟨e0, e1, e2, e3, e4, e5, e6, -⟩ := hf | obtain ⟨e0, e1, e2, e3, e4, e5, -⟩ := hf | obtain ⟨e0, e1, e2, e3, e4, -⟩ := hf | obtain ⟨e0, e1, e2, e3, -⟩ := hf | obtain ⟨e0, e1, e2, -⟩ := hf | obtain ⟨e0, e1, -⟩ := hf | obtain ⟨e0, -⟩ := hf | clear hf
         (try change ρ _ = _ at e0)
         (try change ρ _ = _ at e1)
         (try change ρ _ = _ at e2)
         (try change ρ _ = _ at e3)
         unfold gives
         go_simp
         (try go_ints)
         (try rw [if_pos (by omega)])
         exact hK _ (Grows.refl _)))
  refine kinds_nil (hF _ rfl rfl (fun ww hg => ?_))
  clear hF F
  simp only [pushSlot, finish, Act.put, List.setIfInBounds_toArray, List.set_cons_succ, List.set_cons_zero]
  simp only [List.drop_succ_cons, List.drop_zero]
  go_wp2_with fail
  go_ret2
  refine ⟨?_, below_trans_grows (Below.refl _ _).drew hg (Nat.le_refl _)⟩
  show Ending.returned (.tuple #[.int .u64 (q : Int), .int .u64 ((lo : Int) % (y : Int))]) = _
  rw [e2]
theorem uw_pred {q : Nat} (h : 1 ≤ q) : Value.int .u64 ((q : Int) - 1) = uw (q - 1) := by
  show _ = Value.int .u64 ((q - 1 : Nat) : Int)
  rw [Int.natCast_sub h]; rfl
theorem uw_add (r y : Nat) : Value.int .u64 ((r : Int) + (y : Int)) = uw (r + y) := by
  show _ = Value.int .u64 ((r + y : Nat) : Int)
  rw [Int.natCast_add]
theorem div64_ret (Q1 Q0 rr : Nat) : Ending.returned (.tuple #[.int .u64 ((Q1 : Int) * 4294967296 + (Q0 : Int)), .int .u64 (rr : Int)]) = Ending.returned (.tuple #[uw (Q1 * 4294967296 + Q0), uw rr]) := by
  show _ = Ending.returned (.tuple #[.int .u64 ((Q1 * 4294967296 + Q0 : Nat) : Int), .int .u64 (rr : Int)])
  rw [Int.natCast_add, Int.natCast_mul]; rfl
/-- What one half of the division promises. -/
structure Half (y1 y0 u d Q m : Nat) : Prop where
  init : Q ≤ u / y1
  small : Q < 4294967296
  step : ∀ q r, q * y1 + r = u → Q ≤ q → (4294967296 ≤ q ∨ 4294967296 * r + d < q * y0) → 1 ≤ q ∧ Q ≤ q - 1 ∧ (q - 1) * y1 + (r + y1) = u
  stop : ∀ q r, q * y1 + r = u → Q ≤ q → q * y0 ≤ 4294967296 * r + d → q = Q
  brk : ∀ q r, q * y1 + r = u → Q ≤ q → 4294967296 ≤ r → q = Q
  left : u * 4294967296 + d = Q * (y1 * 4294967296 + y0) + m
  low : m < y1 * 4294967296 + y0
theorem half_is (y1 y0 u d : Nat) (hy1 : 2147483648 ≤ y1) (hy0 : y0 < 4294967296) (hu : u < y1 * 4294967296 + y0) (hd : d < 4294967296) : ∃ Q m, Half y1 y0 u d Q m :=
  ⟨_, _, kn_init hy1 hd, kn_small hy1 hu hd, fun _ _ h1 h2 h3 => kn_step hy1 hu hd h1 h2 h3, fun _ _ h1 h2 h3 => kn_end hy1 h1 h2 h3, fun _ _ h1 h2 h3 => kn_break hy1 hy0 hu h1 h2 h3, (kn_left hy1 rfl).1, (kn_left hy1 rfl).2⟩
def KnRel (y1 u Q : Nat) (vq vr : Value) : Prop :=
  ∃ q r : Nat, vq = uw q ∧ vr = uw r ∧ q * y1 + r = u ∧ Q ≤ q ∧ r < 4294967296 ∧ q < 18446744073709551616
theorem split_word (n : Nat) (h : n < 18446744073709551616) : ∃ a b : Nat, a < 4294967296 ∧ b < 4294967296 ∧ n = a * 4294967296 + b ∧ (n : Int) / 4294967296 = (a : Int) ∧ bits .and .u64 (n : Int) 4294967295 = (b : Int) :=
  ⟨n / 4294967296, n % 4294967296, by omega, by omega, by omega, by omega, Mul64.maskN n h⟩
theorem quo_rem (u y1 : Nat) (h0 : 0 < y1) (hu : u < 18446744073709551616) : ∃ q r p : Nat, q = u / y1 ∧ p = q * y1 ∧ p + r = u ∧ r < y1 ∧ q ≤ u ∧ (u : Int) / (y1 : Int) = (q : Int) ∧ (u : Int).tdiv (y1 : Int) = (q : Int) ∧ IntKind.u64.wrap ((q : Int) * (y1 : Int)) = (p : Int) ∧ IntKind.u64.wrap ((u : Int) - (p : Int)) = (r : Int) := by
  have hdm := Nat.div_add_mod u y1
  have hr := Nat.mod_lt u h0
  have hp : u / y1 * y1 + u % y1 = u := by rw [Nat.mul_comm]; exact hdm
  have hd : (u : Int) / (y1 : Int) = ((u / y1 : Nat) : Int) := (Int.natCast_ediv u y1).symm
  refine ⟨u / y1, u % y1, u / y1 * y1, rfl, rfl, hp, hr, Nat.div_le_self _ _, hd, ?_, ?_, ?_⟩
  · rw [Int.tdiv_eq_ediv_of_nonneg (by omega)]; exact hd
  · rw [← Int.natCast_mul, Mul64.wrapN _ (by omega)]
  · rw [IntKind.wrap_u64]; omega
/-- A half's rest, as the machine has it. -/
theorem left_word (u d Q v m : Nat) (h : u * 4294967296 + d = Q * v + m) (hm : m < 18446744073709551616) :
    ∃ x1 x2 x3 : Nat, x1 < 18446744073709551616 ∧ x2 < 18446744073709551616 ∧ x3 < 18446744073709551616 ∧ IntKind.u64.wrap ((u : Int) * 4294967296) = (x1 : Int) ∧ IntKind.u64.wrap ((x1 : Int) + (d : Int)) = (x2 : Int) ∧ IntKind.u64.wrap ((Q : Int) * (v : Int)) = (x3 : Int) ∧ IntKind.u64.wrap ((x2 : Int) - (x3 : Int)) = (m : Int) := by
  rw [← Int.natCast_mul]
  generalize Q * v = P at *
  refine ⟨u * 4294967296 % 18446744073709551616, (u * 4294967296 % 18446744073709551616 + d) % 18446744073709551616, P % 18446744073709551616, by omega, by omega, by omega, ?_, ?_, ?_, ?_⟩ <;> rw [IntKind.wrap_u64] <;> omega

set_option maxRecDepth 100000 in
set_option maxHeartbeats 4000000 in
theorem div64_core (hi lo y s v y1 y0 hs lq u l2 d1 d0 : Nat) (_hlo : lo < 18446744073709551616) (_hy : y < 18446744073709551616) (h0 : 0 < hi) (hh : hi < y) (w : World) (hs64 : s < 64)
    (hLZ : Keep (Calls Try.prog 92 #[uw y] w fun e w' => e = .returned (.int .i64 (s : Int)) ∧ w = w'))
    (hv : IntKind.u64.wrap ((y : Int) * 2 ^ s) = (v : Int)) (hv1 : (v : Int) / 4294967296 = (y1 : Int)) (hv0 : bits .and .u64 (v : Int) 4294967295 = (y0 : Int))
    (hhs : IntKind.u64.wrap ((hi : Int) * 2 ^ s) = (hs : Int)) (hlq : (lo : Int) / 2 ^ (64 - s) = (lq : Int)) (hor : bits .or .u64 (hs : Int) (lq : Int) = (u : Int))
    (hl2 : IntKind.u64.wrap ((lo : Int) * 2 ^ s) = (l2 : Int)) (hl1 : (l2 : Int) / 4294967296 = (d1 : Int)) (hl0 : bits .and .u64 (l2 : Int) 4294967295 = (d0 : Int))
    (hvy : v = y1 * 4294967296 + y0) (hy1 : 2147483648 ≤ y1) (hy1' : y1 < 4294967296) (hy0 : y0 < 4294967296) (hd1 : d1 < 4294967296) (hd0 : d0 < 4294967296) (huv : u < v) (rr : Nat)
    (Q1 m Q0 n : Nat) (hH1 : Keep (Half y1 y0 u d1 Q1 m)) (hH0 : Keep (Half y1 y0 m d0 Q0 n)) (hrr : Keep ((n : Int) / 2 ^ s = (rr : Int))) :
    Calls Try.prog 80 #[uw hi, uw lo, uw y] w (Div64Ends w (Q1 * 4294967296 + Q0) rr) := by
  obtain ⟨a, b, p, x1, x2, x3, hb, ham, e1, e2, e3, e4⟩ := quo_rem u y1 (by omega) (by omega)
  have hqQ1 := hide x1
  have hpQ1 := hide x2
  have hsQ1 := hide x3
  clear x1 x2 x3
  have hv64 : v < 18446744073709551616 := by omega
  have hmv : m < 18446744073709551616 := by have := hH1.out.low; omega
  have hnv : n < 18446744073709551616 := by have := hH0.out.low; omega
  have hnv := hide hnv
  have hsm1 := hH1.out.small
  have hsm0 := hH0.out.small
  have HVY := hide hvy
  have hyz : ¬ (y1 : Int) = 0 := by omega
  clear hvy
  go_enter Try.func80, Try.ntmps80
  go_wp2_with fail
  with_reducible refine hLZ.out.mono ?_
  rintro e w' ⟨rfl, rfl⟩
  clear hLZ
  go_wp2_with fail
  clear hv hv1 hv0 hhs hlq hor hl2 hl1 hl0 e1 e2 e3 e4
  go_loop [15, 16] (fun q r => KnRel y1 u Q1 q r) (fun q _ => (intOf q).toNat)
  case atStart => exact ⟨_, _, rfl, rfl, by rw [← hpQ1.out]; exact hsQ1.out, by have := hH1.out.init; rw [← hqQ1.out] at this; exact this, by omega, by omega⟩
  case round =>
    obtain ⟨q, r, rfl, rfl, hi1, hi2, hi3, hi4⟩ := hrel
    have HI := hide hi1
    by_cases hc : (4294967296 : Int) ≤ (q : Int)
    · obtain ⟨k1, k2, k3⟩ := hH1.out.step q r hi1 hi2 (.inl (by omega))
      have HK := hide k3
      clear k3 hi1
      by_cases hbr : (4294967296 : Int) ≤ (r : Int) + (y1 : Int)
      · have hQ : q - 1 = Q1 := hH1.out.brk _ _ HK.out k2 (by omega)
        have hqq : (q : Int) - 1 = (Q1 : Int) := by omega
        clear hQ
        obtain ⟨z1, z2, z3, hz1, hz2, hz3, f1, f2, f3, f4⟩ := left_word u d1 Q1 v m (by rw [HVY.out]; exact hH1.out.left) hmv
        obtain ⟨a0, b0, p0, x1, x2, x3, hb0, ham0, g1, g2, g3, g4⟩ := quo_rem m y1 (by omega) hmv
        have hqQ0 := hide x1
        have hpQ0 := hide x2
        have hsQ0 := hide x3
        clear x1 x2 x3
        go_wp2_with fail
        clear f1 f2 f3 f4 g1 g2 g3 g4
        (try clear hqq)

        go_loop [18, 16] (fun q r => KnRel y1 m Q0 q r) (fun q _ => (intOf q).toNat)
        case atStart => exact ⟨_, _, rfl, rfl, by rw [← hpQ0.out]; exact hsQ0.out, by have := hH0.out.init; rw [← hqQ0.out] at this; exact this, by omega, by omega⟩
        case round =>
          obtain ⟨q, r, rfl, rfl, hi1, hi2, hi3, hi4⟩ := hrel
          have HI := hide hi1
          by_cases hc : (4294967296 : Int) ≤ (q : Int)
          · obtain ⟨k1, k2, k3⟩ := hH0.out.step q r hi1 hi2 (.inl (by omega))
            have HK := hide k3
            clear k3 hi1
            by_cases hbr : (4294967296 : Int) ≤ (r : Int) + (y1 : Int)
            · have hQ : q - 1 = Q0 := hH0.out.brk _ _ HK.out k2 (by omega)
              have hqq : (q : Int) - 1 = (Q0 : Int) := by omega
              clear hQ
              obtain ⟨c1, c2, c3, hc1, hc2, hc3, j1, j2, j3, j4⟩ := left_word m d0 Q0 v n (by rw [HVY.out]; exact hH0.out.left) hnv.out
              have hfin := hrr.out
              go_wp2_with fail
              go_ret2
              exact ⟨div64_ret Q1 Q0 rr, Below.refl _ _⟩

            · go_wp2_with fail
              go_round
              case rel => exact ⟨q - 1, r + y1, uw_pred k1, uw_add r y1, HK.out, k2, by omega, by omega⟩
              case measure => simp [intOf]; omega
          · have hq32 : q < 4294967296 := by omega
            have hS : q * y0 < 18446744073709551616 := Nat.mul_lt_mul'' hq32 hy0
            have hm : IntKind.u64.wrap ((q : Int) * (y0 : Int)) = ((q * y0 : Nat) : Int) := by rw [← Int.natCast_mul, Mul64.wrapN _ hS]
            by_cases hgt : (4294967296 : Int) * (r : Int) + (d0 : Int) < ((q * y0 : Nat) : Int)
            · obtain ⟨k1, k2, k3⟩ := hH0.out.step q r hi1 hi2 (.inr (by omega))
              have HK := hide k3
              clear k3 hi1
              generalize q * y0 = S at *
              by_cases hbr : (4294967296 : Int) ≤ (r : Int) + (y1 : Int)
              · have hQ : q - 1 = Q0 := hH0.out.brk _ _ HK.out k2 (by omega)
                have hqq : (q : Int) - 1 = (Q0 : Int) := by omega
                clear hQ
                obtain ⟨c1, c2, c3, hc1, hc2, hc3, j1, j2, j3, j4⟩ := left_word m d0 Q0 v n (by rw [HVY.out]; exact hH0.out.left) hnv.out
                have hfin := hrr.out
                go_wp2_with fail
                go_ret2
                exact ⟨div64_ret Q1 Q0 rr, Below.refl _ _⟩

              · go_wp2_with fail
                go_round
                case rel => exact ⟨q - 1, r + y1, uw_pred k1, uw_add r y1, HK.out, k2, by omega, by omega⟩
                case measure => simp [intOf]; omega
            · have hQ : Q0 = q := (hH0.out.stop q r hi1 hi2 (by omega)).symm
              generalize q * y0 = S at *
              clear hi1 HI
              obtain rfl := hQ
              obtain ⟨c1, c2, c3, hc1, hc2, hc3, j1, j2, j3, j4⟩ := left_word m d0 Q0 v n (by rw [HVY.out]; exact hH0.out.left) hnv.out
              have hfin := hrr.out
              go_wp2_with fail
              go_ret2
              exact ⟨div64_ret Q1 Q0 rr, Below.refl _ _⟩

      · go_wp2_with fail
        go_round
        case rel => exact ⟨q - 1, r + y1, uw_pred k1, uw_add r y1, HK.out, k2, by omega, by omega⟩
        case measure => simp [intOf]; omega
    · have hq32 : q < 4294967296 := by omega
      have hS : q * y0 < 18446744073709551616 := Nat.mul_lt_mul'' hq32 hy0
      have hm : IntKind.u64.wrap ((q : Int) * (y0 : Int)) = ((q * y0 : Nat) : Int) := by rw [← Int.natCast_mul, Mul64.wrapN _ hS]
      by_cases hgt : (4294967296 : Int) * (r : Int) + (d1 : Int) < ((q * y0 : Nat) : Int)
      · obtain ⟨k1, k2, k3⟩ := hH1.out.step q r hi1 hi2 (.inr (by omega))
        have HK := hide k3
        clear k3 hi1
        generalize q * y0 = S at *
        by_cases hbr : (4294967296 : Int) ≤ (r : Int) + (y1 : Int)
        · have hQ : q - 1 = Q1 := hH1.out.brk _ _ HK.out k2 (by omega)
          have hqq : (q : Int) - 1 = (Q1 : Int) := by omega
          clear hQ
          obtain ⟨z1, z2, z3, hz1, hz2, hz3, f1, f2, f3, f4⟩ := left_word u d1 Q1 v m (by rw [HVY.out]; exact hH1.out.left) hmv
          obtain ⟨a0, b0, p0, x1, x2, x3, hb0, ham0, g1, g2, g3, g4⟩ := quo_rem m y1 (by omega) hmv
          have hqQ0 := hide x1
          have hpQ0 := hide x2
          have hsQ0 := hide x3
          clear x1 x2 x3
          go_wp2_with fail
          clear f1 f2 f3 f4 g1 g2 g3 g4
          (try clear hqq)

          go_loop [18, 16] (fun q r => KnRel y1 m Q0 q r) (fun q _ => (intOf q).toNat)
          case atStart => exact ⟨_, _, rfl, rfl, by rw [← hpQ0.out]; exact hsQ0.out, by have := hH0.out.init; rw [← hqQ0.out] at this; exact this, by omega, by omega⟩
          case round =>
            obtain ⟨q, r, rfl, rfl, hi1, hi2, hi3, hi4⟩ := hrel
            have HI := hide hi1
            by_cases hc : (4294967296 : Int) ≤ (q : Int)
            · obtain ⟨k1, k2, k3⟩ := hH0.out.step q r hi1 hi2 (.inl (by omega))
              have HK := hide k3
              clear k3 hi1
              by_cases hbr : (4294967296 : Int) ≤ (r : Int) + (y1 : Int)
              · have hQ : q - 1 = Q0 := hH0.out.brk _ _ HK.out k2 (by omega)
                have hqq : (q : Int) - 1 = (Q0 : Int) := by omega
                clear hQ
                obtain ⟨c1, c2, c3, hc1, hc2, hc3, j1, j2, j3, j4⟩ := left_word m d0 Q0 v n (by rw [HVY.out]; exact hH0.out.left) hnv.out
                have hfin := hrr.out
                go_wp2_with fail
                go_ret2
                exact ⟨div64_ret Q1 Q0 rr, Below.refl _ _⟩

              · go_wp2_with fail
                go_round
                case rel => exact ⟨q - 1, r + y1, uw_pred k1, uw_add r y1, HK.out, k2, by omega, by omega⟩
                case measure => simp [intOf]; omega
            · have hq32 : q < 4294967296 := by omega
              have hS : q * y0 < 18446744073709551616 := Nat.mul_lt_mul'' hq32 hy0
              have hm : IntKind.u64.wrap ((q : Int) * (y0 : Int)) = ((q * y0 : Nat) : Int) := by rw [← Int.natCast_mul, Mul64.wrapN _ hS]
              by_cases hgt : (4294967296 : Int) * (r : Int) + (d0 : Int) < ((q * y0 : Nat) : Int)
              · obtain ⟨k1, k2, k3⟩ := hH0.out.step q r hi1 hi2 (.inr (by omega))
                have HK := hide k3
                clear k3 hi1
                generalize q * y0 = S at *
                by_cases hbr : (4294967296 : Int) ≤ (r : Int) + (y1 : Int)
                · have hQ : q - 1 = Q0 := hH0.out.brk _ _ HK.out k2 (by omega)
                  have hqq : (q : Int) - 1 = (Q0 : Int) := by omega
                  clear hQ
                  obtain ⟨c1, c2, c3, hc1, hc2, hc3, j1, j2, j3, j4⟩ := left_word m d0 Q0 v n (by rw [HVY.out]; exact hH0.out.left) hnv.out
                  have hfin := hrr.out
                  go_wp2_with fail
                  go_ret2
                  exact ⟨div64_ret Q1 Q0 rr, Below.refl _ _⟩

                · go_wp2_with fail
                  go_round
                  case rel => exact ⟨q - 1, r + y1, uw_pred k1, uw_add r y1, HK.out, k2, by omega, by omega⟩
                  case measure => simp [intOf]; omega
              · have hQ : Q0 = q := (hH0.out.stop q r hi1 hi2 (by omega)).symm
                generalize q * y0 = S at *
                clear hi1 HI
                obtain rfl := hQ
                obtain ⟨c1, c2, c3, hc1, hc2, hc3, j1, j2, j3, j4⟩ := left_word m d0 Q0 v n (by rw [HVY.out]; exact hH0.out.left) hnv.out
                have hfin := hrr.out
                go_wp2_with fail
                go_ret2
                exact ⟨div64_ret Q1 Q0 rr, Below.refl _ _⟩

        · go_wp2_with fail
          go_round
          case rel => exact ⟨q - 1, r + y1, uw_pred k1, uw_add r y1, HK.out, k2, by omega, by omega⟩
          case measure => simp [intOf]; omega
      · have hQ : Q1 = q := (hH1.out.stop q r hi1 hi2 (by omega)).symm
        generalize q * y0 = S at *
        clear hi1 HI
        obtain rfl := hQ
        obtain ⟨z1, z2, z3, hz1, hz2, hz3, f1, f2, f3, f4⟩ := left_word u d1 Q1 v m (by rw [HVY.out]; exact hH1.out.left) hmv
        obtain ⟨a0, b0, p0, x1, x2, x3, hb0, ham0, g1, g2, g3, g4⟩ := quo_rem m y1 (by omega) hmv
        have hqQ0 := hide x1
        have hpQ0 := hide x2
        have hsQ0 := hide x3
        clear x1 x2 x3
        go_wp2_with fail
        clear f1 f2 f3 f4 g1 g2 g3 g4
        (try clear hqq)

        go_loop [18, 16] (fun q r => KnRel y1 m Q0 q r) (fun q _ => (intOf q).toNat)
        case atStart => exact ⟨_, _, rfl, rfl, by rw [← hpQ0.out]; exact hsQ0.out, by have := hH0.out.init; rw [← hqQ0.out] at this; exact this, by omega, by omega⟩
        case round =>
          obtain ⟨q, r, rfl, rfl, hi1, hi2, hi3, hi4⟩ := hrel
          have HI := hide hi1
          by_cases hc : (4294967296 : Int) ≤ (q : Int)
          · obtain ⟨k1, k2, k3⟩ := hH0.out.step q r hi1 hi2 (.inl (by omega))
            have HK := hide k3
            clear k3 hi1
            by_cases hbr : (4294967296 : Int) ≤ (r : Int) + (y1 : Int)
            · have hQ : q - 1 = Q0 := hH0.out.brk _ _ HK.out k2 (by omega)
              have hqq : (q : Int) - 1 = (Q0 : Int) := by omega
              clear hQ
              obtain ⟨c1, c2, c3, hc1, hc2, hc3, j1, j2, j3, j4⟩ := left_word m d0 Q0 v n (by rw [HVY.out]; exact hH0.out.left) hnv.out
              have hfin := hrr.out
              go_wp2_with fail
              go_ret2
              exact ⟨div64_ret Q1 Q0 rr, Below.refl _ _⟩

            · go_wp2_with fail
              go_round
              case rel => exact ⟨q - 1, r + y1, uw_pred k1, uw_add r y1, HK.out, k2, by omega, by omega⟩
              case measure => simp [intOf]; omega
          · have hq32 : q < 4294967296 := by omega
            have hS : q * y0 < 18446744073709551616 := Nat.mul_lt_mul'' hq32 hy0
            have hm : IntKind.u64.wrap ((q : Int) * (y0 : Int)) = ((q * y0 : Nat) : Int) := by rw [← Int.natCast_mul, Mul64.wrapN _ hS]
            by_cases hgt : (4294967296 : Int) * (r : Int) + (d0 : Int) < ((q * y0 : Nat) : Int)
            · obtain ⟨k1, k2, k3⟩ := hH0.out.step q r hi1 hi2 (.inr (by omega))
              have HK := hide k3
              clear k3 hi1
              generalize q * y0 = S at *
              by_cases hbr : (4294967296 : Int) ≤ (r : Int) + (y1 : Int)
              · have hQ : q - 1 = Q0 := hH0.out.brk _ _ HK.out k2 (by omega)
                have hqq : (q : Int) - 1 = (Q0 : Int) := by omega
                clear hQ
                obtain ⟨c1, c2, c3, hc1, hc2, hc3, j1, j2, j3, j4⟩ := left_word m d0 Q0 v n (by rw [HVY.out]; exact hH0.out.left) hnv.out
                have hfin := hrr.out
                go_wp2_with fail
                go_ret2
                exact ⟨div64_ret Q1 Q0 rr, Below.refl _ _⟩

              · go_wp2_with fail
                go_round
                case rel => exact ⟨q - 1, r + y1, uw_pred k1, uw_add r y1, HK.out, k2, by omega, by omega⟩
                case measure => simp [intOf]; omega
            · have hQ : Q0 = q := (hH0.out.stop q r hi1 hi2 (by omega)).symm
              generalize q * y0 = S at *
              clear hi1 HI
              obtain rfl := hQ
              obtain ⟨c1, c2, c3, hc1, hc2, hc3, j1, j2, j3, j4⟩ := left_word m d0 Q0 v n (by rw [HVY.out]; exact hH0.out.left) hnv.out
              have hfin := hrr.out
              go_wp2_with fail
              go_ret2
              exact ⟨div64_ret Q1 Q0 rr, Below.refl _ _⟩

theorem div64_any (hi lo y : Nat) (hlo : lo < 18446744073709551616) (hy : y < 18446744073709551616) (hh : hi < y) (w : World) :
    Calls Try.prog 80 #[uw hi, uw lo, uw y] w (Div64Ends w ((hi * 18446744073709551616 + lo) / y) ((hi * 18446744073709551616 + lo) % y)) := by
  rcases Nat.eq_zero_or_pos hi with h0 | h0
  · subst h0
    rw [Nat.zero_mul, Nat.zero_add]
    exact div64_low lo y hlo hy (by omega) w
  obtain ⟨hs, hn1, hn2⟩ := kn_norm y (by omega) hy
  have hlz : Keep (Calls Try.prog 92 #[uw y] w fun e w' => e = .returned (.int .i64 ((64 - blen y : Nat) : Int)) ∧ w = w') := ⟨lz64_any y w hy⟩
  obtain ⟨hw1, hw2, hw3⟩ := kn_words hi lo y _ hs hlo hh
  obtain ⟨hr1, hr2⟩ := kn_shift (hi * 18446744073709551616 + lo) y (64 - blen y)
  rw [← hr1, ← hr2, hw2]
  clear hr1 hr2 hw2
  generalize 64 - blen y = s at *
  have hv : IntKind.u64.wrap ((y : Int) * 2 ^ s) = ((y * 2 ^ s : Nat) : Int) := by
    rw [← Mul64.wrapN _ hn2, Int.natCast_mul, Int.natCast_pow]; rfl
  have hhs64 : hi * 2 ^ s < 18446744073709551616 := Nat.lt_of_le_of_lt (Nat.le_add_right _ _) (Nat.lt_trans hw1 hn2)
  have hhs : IntKind.u64.wrap ((hi : Int) * 2 ^ s) = ((hi * 2 ^ s : Nat) : Int) := by
    rw [← Mul64.wrapN _ hhs64, Int.natCast_mul, Int.natCast_pow]; rfl
  have hlq : (lo : Int) / 2 ^ (64 - s) = ((lo / 2 ^ (64 - s) : Nat) : Int) := by
    rw [Int.natCast_ediv, Int.natCast_pow]; rfl
  have hor := or_shl hi (lo / 2 ^ (64 - s)) s hhs64 hw3 hs
  have hl2 : IntKind.u64.wrap ((lo : Int) * 2 ^ s) = ((lo * 2 ^ s % 18446744073709551616 : Nat) : Int) := by
    rw [← Mul64.wrapM, Int.natCast_mul, Int.natCast_pow]; rfl
  have hl2' : lo * 2 ^ s % 18446744073709551616 < 18446744073709551616 := Nat.mod_lt _ (by decide)
  have hfin : ∀ n : Nat, Keep ((n : Int) / 2 ^ s = ((n / 2 ^ s : Nat) : Int)) := fun n => ⟨by rw [Int.natCast_ediv, Int.natCast_pow]; rfl⟩
  generalize hi * 2 ^ s + lo / 2 ^ (64 - s) = u at *
  generalize lo * 2 ^ s % 18446744073709551616 = l2 at *
  generalize lo / 2 ^ (64 - s) = lq at *
  generalize hi * 2 ^ s = hs' at *
  generalize y * 2 ^ s = v at *
  obtain ⟨y1, y0, a1, a2, a3, a4, a5⟩ := split_word v hn2
  obtain ⟨d1, d0, b1, b2, b3, b4, b5⟩ := split_word l2 hl2'
  have hy1 : 2147483648 ≤ y1 := by omega
  obtain ⟨Q1, m, H1⟩ := half_is y1 y0 u d1 hy1 a2 (by omega) b1
  obtain ⟨Q0, n, H0⟩ := half_is y1 y0 m d0 hy1 a2 H1.low b2
  have hl1 := H1.left
  have hl0 := H0.left
  have hnv := H0.low
  rw [← a3] at hl1 hl0 hnv
  obtain ⟨e1, e2⟩ := kn_both 4294967296 u d1 d0 v Q1 Q0 m n (by omega) hl1 hl0 hnv
  rw [b3]
  have e1' : (u * 18446744073709551616 + (d1 * 4294967296 + d0)) / v = Q1 * 4294967296 + Q0 := e1
  have e2' : (u * 18446744073709551616 + (d1 * 4294967296 + d0)) % v = n := e2
  rw [e1', e2']
  exact div64_core hi lo y s v y1 y0 hs' lq u l2 d1 d0 hlo hy h0 hh w hs hlz hv a4 a5 hhs hlq hor hl2 b4 b5 a3 hy1 a1 a2 b1 b2 hw1 (n / 2 ^ s) Q1 m Q0 n ⟨H1⟩ ⟨H0⟩ (hfin n)
end Go.Proofs.Ythdanjbgbbcafaa
