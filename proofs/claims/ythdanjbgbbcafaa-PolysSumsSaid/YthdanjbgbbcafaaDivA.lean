/- One bit more behind what is left: walked; whether a number is one word. -/
import Derived.Test.YthdanjbgbbcafaaMulB
namespace Go.Proofs.Ythdanjbgbbcafaa
open Go Go.RowKit

abbrev nought : Array Value := #[uw 0, uw 0, uw 0, uw 0]
theorem num_box (w : World) (t : TypeId) (row : Array Value) : Blk ((w.alloc (.cells nought t)).setRow w.heap.size row) w.heap.size t row ∧ Below w.heap.size w ((w.alloc (.cells nought t)).setRow w.heap.size row) :=
  ⟨(Blk.new w t nought).setRow row, below_setRow ((Below.refl _ _).alloc (Nat.le_refl _) _) (Nat.le_refl _) row⟩
theorem wd_bit (X b : Nat) (he : X % 2 = 0) (hb : b ≤ 1) : wd X 0 + b < 18446744073709551616 ∧ (wrow (wd X)).setIfInBounds 0 (uw (wd X 0 + b)) = num (X + b) := by
  have h0 := wd_0 X
  have h1 := wd_1 X
  have h2 := wd_2 X
  have h3 := wd_3 X
  have k0 := wd_0 (X + b)
  have k1 := wd_1 (X + b)
  have k2 := wd_2 (X + b)
  have k3 := wd_3 (X + b)
  refine ⟨by omega, ?_⟩
  rw [wrow_set _ _ _ (by omega)]
  refine wrow_congr fun i hi => ?_
  rcases four hi with rfl | rfl | rfl | rfl
  · rw [if_pos rfl]; omega
  · rw [if_neg (by omega)]; omega
  · rw [if_neg (by omega)]; omega
  · rw [if_neg (by omega)]; omega
theorem or_bit (x b : Nat) (hx : x < 18446744073709551616) (he : x % 2 = 0) (hb : b ≤ 1) : bits .or .u64 (x : Int) (b : Int) = ((x + b : Nat) : Int) := by
  have h : x ||| b = x + b := by
    have := Nat.two_pow_add_eq_or_of_lt (i := 1) (b := b) (by omega) (x / 2)
    rw [show 2 ^ 1 * (x / 2) = x by omega] at this
    exact this.symm
  rw [bits_or_u64_nat x b hx (by omega), h]
/-- What one bit more comes to. -/
theorem next_law (r b m : Nat) (hr : r < m) (hm : m < big) (hb : b ≤ 1) :
    ∃ X c Y l : Nat, X = (r + r) % big ∧ c = (r + r) / big ∧ Y = (X + b + big - m) % big ∧ l = (if X + b < m then 1 else 0) ∧ X < big ∧ X % 2 = 0 ∧ X + b < big ∧ Y < big ∧
      ((c = 1 ∨ (c = 0 ∧ l = 0)) ∧ Y = (2 * r + b) % m ∧ (2 * r + b) / m = 1 ∨ c = 0 ∧ l = 1 ∧ X + b = (2 * r + b) % m ∧ (2 * r + b) / m = 0) := by
  have hbe : big % 2 = 0 := by unfold big; decide
  have hbp := big_pos
  generalize big = B at *
  have hq : ∀ z, z < m → z % m = z ∧ z / m = 0 := fun z h => ⟨Nat.mod_eq_of_lt h, Nat.div_eq_of_lt h⟩
  have hq1 : ∀ z, m ≤ z → z < 2 * m → z % m = z - m ∧ z / m = 1 := fun z h h' => by
    have h1 : z / m = 1 := Nat.div_eq_of_lt_le (by omega) (by omega)
    have h2 := Nat.div_add_mod z m
    rw [h1] at h2
    exact ⟨by omega, h1⟩
  refine ⟨(r + r) % B, (r + r) / B, _, _, rfl, rfl, rfl, rfl, ?_⟩
  have hX : (r + r) % B < B := Nat.mod_lt _ hbp
  have hr2 : r + r < 2 * B := by omega
  by_cases hc : r + r < B
  · have e1 : (r + r) % B = r + r := Nat.mod_eq_of_lt hc
    have e2 : (r + r) / B = 0 := Nat.div_eq_of_lt hc
    rw [e1, e2]
    have hp : r + r + b < B := by omega
    by_cases hl : r + r + b < m
    · rw [if_pos hl]
      obtain ⟨h1, h2⟩ := hq (2 * r + b) (by omega)
      refine ⟨by omega, by omega, hp, Nat.mod_lt _ hbp, .inr ⟨rfl, rfl, by omega, h2⟩⟩
    · rw [if_neg hl]
      obtain ⟨h1, h2⟩ := hq1 (2 * r + b) (by omega) (by omega)
      have e3 : (r + r + b + B - m) % B = r + r + b - m := by
        rw [show r + r + b + B - m = (r + r + b - m) + B by omega, Nat.add_mod_right, Nat.mod_eq_of_lt (by omega)]
      exact ⟨by omega, by omega, hp, Nat.mod_lt _ hbp, .inl ⟨.inr ⟨rfl, rfl⟩, by omega, h2⟩⟩
  · have e2 : (r + r) / B = 1 := Nat.div_eq_of_lt_le (by omega) (by omega)
    have h3 := Nat.div_add_mod (r + r) B
    rw [e2] at h3 ⊢
    generalize (r + r) % B = X at *
    obtain ⟨h1, h2⟩ := hq1 (2 * r + b) (by omega) (by omega)
    have e3 : (X + b + B - m) % B = 2 * r + b - m := by
      rw [show X + b + B - m = 2 * r + b - m by omega, Nat.mod_eq_of_lt (by omega)]
    exact ⟨hX, by omega, by omega, Nat.mod_lt _ hbp, .inl ⟨.inl rfl, by omega, h2⟩⟩
set_option maxRecDepth 100000 in
set_option maxHeartbeats 2000000 in
theorem next_any (r b m : Nat) (hr : r < m) (hm : m < big) (hb : b ≤ 1) (w : World) :
    Calls Try.prog 81 #[.agg (num r), uw b, .agg (num m)] w (SumEnds w ((2 * r + b) % m) ((2 * r + b) / m)) := by
  obtain ⟨X, c, Y, l, eX, ec, eY, el, hX, hXe, hXb, hY, hcase⟩ := next_law r b m hr hm hb
  have hadd := fun w => ladd_any r r (by omega) (by omega) w
  have hsub := fun w => lsub_any (X + b) m hXb hm w
  rw [← eX, ← ec] at hadd
  rw [← eY, ← el] at hsub
  obtain ⟨hxw, hset⟩ := wd_bit X b hXe hb
  have hx0 := wd_lt X 0
  have hxe : wd X 0 % 2 = 0 := by rw [wd_0]; omega
  have hor := or_bit (wd X 0) b hx0 hxe hb
  have hat := num_at X 0 (by omega)
  obtain ⟨x, hx⟩ : ∃ x : Nat, x = wd X 0 := ⟨_, rfl⟩
  rw [← hx] at hor hset hxw hat
  obtain ⟨y, hy⟩ : ∃ y : Nat, y = x + b := ⟨_, rfl⟩
  obtain ⟨Z, hZ⟩ : ∃ Z : Nat, Z = X + b := ⟨_, rfl⟩
  rw [← hy] at hor hset hxw
  rw [← hZ] at hset hsub hcase
  have HADD := hide hadd
  have HSUB := hide hsub
  have HSET : Keep ((num X).setIfInBounds 0 (uw y) = num Z) := ⟨hset⟩
  have HC := hide hcase
  clear hy hZ hadd hsub hset hcase eX ec eY el hx hxe hx0 hX hXe hXb hY hr hm
  go_enter Try.func81, Try.ntmps81
  go_upto_region 1 with fail
  have A1 := ((Blk.new w 24 (num r)).alloc (.cells (num m) 24)).alloc (.cells nought 24)
  have B1 := (Blk.new (w.alloc (.cells (num r) 24)) 24 (num m)).alloc (.cells nought 24)
  have C1 := Blk.new ((w.alloc (.cells (num r) 24)).alloc (.cells (num m) 24)) 24 nought
  have L1 : Below w.heap.size w (((w.alloc (.cells (num r) 24)).alloc (.cells (num m) 24)).alloc (.cells nought 24)) := (((Below.refl _ _).alloc (Nat.le_refl _) _).alloc (by simp) _).alloc (by simp; omega) _
  simp only [World.size_alloc] at B1 C1
  change Code.wp _ _ _ _ (((w.alloc (.cells (num r) 24)).alloc (.cells (num m) 24)).alloc (.cells nought 24))
  generalize ((w.alloc (.cells (num r) 24)).alloc (.cells (num m) 24)).alloc (.cells nought 24) = w1 at *
  have HA := hide A1
  have HB := hide B1
  have HD := hide C1
  have HL := hide L1
  clear A1 B1 C1 L1
  go_wp2_with (first
    | (refine wpList_load_row rfl 24 _ rfl w.heap.size rfl 24 (num r) (0, 0) _ HA.out Try.underlying24 rfl info4 ?_)
    | fail)
  with_reducible refine (HADD.out _).mono ?_
  rintro e w2 ⟨rfl, L⟩
  have HL2 := hide (below_trans_grows HL.out L HL.out.size)
  have HB2 := hide (HB.out.below L HB.out.lt)
  have HD2 := hide (HD.out.below L HD.out.lt)
  clear L HA HB HD HL HADD
  have hsz2 := HD2.out.lt
  go_upto_region 2 with (refine wpList_store_row rfl 24 (.tmp 8) (.tmp 16) rfl w2.heap.size (num X) rfl rfl 24 _ (Blk.new w2 _ nought) info4 rfl (num_one _) ?_)
  obtain ⟨R, L⟩ := num_box w2 24 (num X)
  change Code.wp _ _ _ _ ((w2.alloc (.cells nought 24)).setRow w2.heap.size (num X))
  generalize (w2.alloc (.cells nought 24)).setRow w2.heap.size (num X) = w3 at *
  have hcell := (R.cell 0).trans hat
  have hfz := R.frozen 0
  have HL3 := hide (below_trans_grows HL2.out L HL2.out.size)
  have HB3 := hide (HB2.out.below L HB2.out.lt)
  have HD3 := hide (HD2.out.below L HD2.out.lt)
  have HR3 := hide R
  have hg8 : w.heap.size + 1 + 1 < w2.heap.size := hsz2
  obtain ⟨g8, hg8e⟩ : ∃ g : Nat, g = w2.heap.size := ⟨_, rfl⟩
  rw [← hg8e] at hg8 hcell hfz HR3 ⊢
  have HG := hide hg8e
  clear L R HL2 HB2 HD2 hat hsz2 hg8e
  go_upto_region 3 with fail
  have R := HR3.out.set_ 0 (uw y)
  rw [HSET.out] at R
  have L := below_cell2 HL3.out (b := g8) (i := 0) (by omega) (uw y)
  have B := HB3.out.far2 (b := g8) (i := 0) (by omega) (uw y)
  have D := HD3.out.far2 (b := g8) (i := 0) (by omega) (uw y)
  change Code.wp _ _ _ _ (w3.setCell ⟨g8, 0, none⟩ (uw y))
  generalize w3.setCell ⟨g8, 0, none⟩ (uw y) = w4 at *
  have HR4 := hide R
  have HL4 := hide L
  have HB4 := hide B
  have HD4 := hide D
  clear R L B D HR3 HL3 HB3 HD3 hcell hfz hor hxw
  go_wp2_with (first
    | (refine wpList_load_row rfl 24 _ rfl g8 rfl 24 (num Z) (0, 0) _ HR4.out Try.underlying24 rfl info4 ?_)
    | (refine wpList_load_row rfl 24 _ rfl (w.heap.size + 1) rfl 24 (num m) (0, 0) _ HB4.out Try.underlying24 rfl info4 ?_)
    | fail)
  with_reducible refine (HSUB.out _).mono ?_
  rintro e w5 ⟨rfl, L⟩
  have HL5 := hide (below_trans_grows HL4.out L HL4.out.size)
  have HR5 := hide (HR4.out.below L HR4.out.lt)
  have HD5 := hide (HD4.out.below L HD4.out.lt)
  clear L HL4 HB4 HR4 HD4 HSUB
  have hsz5 := HR5.out.lt
  go_upto_region 4 with (refine wpList_store_row rfl 24 (.tmp 10) (.tmp 27) rfl w5.heap.size (num Y) rfl rfl 24 _ (Blk.new w5 _ nought) info4 rfl (num_one _) ?_)
  obtain ⟨S, L⟩ := num_box w5 24 (num Y)
  change Code.wp _ _ _ _ ((w5.alloc (.cells nought 24)).setRow w5.heap.size (num Y))
  generalize (w5.alloc (.cells nought 24)).setRow w5.heap.size (num Y) = w6 at *
  have HL6 := hide (below_trans_grows HL5.out L HL5.out.size)
  have HR6 := hide (HR5.out.below L HR5.out.lt)
  have HD6 := hide (HD5.out.below L HD5.out.lt)
  have HS6 := hide S
  have hg10 : g8 < w5.heap.size := hsz5
  obtain ⟨g10, hg10e⟩ : ∃ g : Nat, g = w5.heap.size := ⟨_, rfl⟩
  rw [← hg10e] at hg10 HS6 ⊢
  clear L S HL5 HR5 HD5 hsz5 hg10e
  rcases HC.out with ⟨h1, h2, h3⟩ | ⟨h1, h2, h3, h4⟩
  · have HE2 := hide h2
    have HE3 := hide h3
    clear h2 h3 HC
    rcases h1 with rfl | ⟨rfl, rfl⟩
    all_goals
      go_wp2_with (first
        | (refine wpList_load_row rfl 24 _ rfl g10 rfl 24 (num Y) (0, 0) _ HS6.out Try.underlying24 rfl info4 ?_)
        | (refine wpList_store_row rfl 24 (.tmp 6) (.tmp 35) rfl (w.heap.size + 1 + 1) (num Y) rfl rfl 24 _ HD6.out info4 rfl (num_one _) ?_))
      have hS := HD6.out.setRow (num Y)
      exact bodyPost_ret (results_num_tmp rfl rfl hS) rfl ⟨by rw [← HE2.out, HE3.out]; rfl, below_setRow HL6.out (by omega) _⟩
  · have HE2 := hide h3
    have HE3 := hide h4
    subst h1
    subst h2
    clear h3 h4 HC
    go_wp2_with (first
      | (refine wpList_load_row rfl 24 _ rfl g8 rfl 24 (num Z) (0, 0) _ HR6.out Try.underlying24 rfl info4 ?_)
      | (refine wpList_store_row rfl 24 (.tmp 6) (.tmp 36) rfl (w.heap.size + 1 + 1) (num Z) rfl rfl 24 _ HD6.out info4 rfl (num_one _) ?_))
    have hS := HD6.out.setRow (num Z)
    exact bodyPost_ret (results_num_tmp rfl rfl hS) rfl ⟨by rw [← HE2.out, HE3.out]; rfl, below_setRow HL6.out (by omega) _⟩
def isShort (n : Nat) : Bool := decide (blen n ≤ 64)
theorem isShort_spec (n : Nat) : isShort n = true ↔ n < 18446744073709551616 := by
  unfold isShort
  rw [decide_eq_true_iff]
  refine ⟨fun h => ?_, fun h => blen_most n 64 h⟩
  have h1 := blen_lt n
  have h2 := Nat.pow_le_pow_right (n := 2) (by omega) h
  exact Nat.lt_of_lt_of_le h1 h2
theorem short_any (a : Nat) (ha : a < big) (w : World) : Calls Try.prog 79 #[.agg (num a)] w (BoolEnds w (isShort a)) := by
  have hb := fun w => lbits_any a ha w
  obtain ⟨k, hk⟩ : ∃ k : Nat, k = blen a := ⟨_, rfl⟩
  rw [← hk] at hb
  have hr : isShort a = decide ((k : Int) ≤ 64) := by unfold isShort; rw [hk]; exact decide_eq_decide.2 (by omega)
  rw [hr]
  have HB := hide hb
  clear hb hr hk ha
  go_enter Try.func79, Try.ntmps79
  go_upto_region 1 with fail
  have A1 := Blk.new w 24 (num a)
  have L1 : Below w.heap.size w (w.alloc (.cells (num a) 24)) := (Below.refl _ _).alloc (Nat.le_refl _) _
  change Code.wp _ _ _ _ (w.alloc (.cells (num a) 24))
  generalize w.alloc (.cells (num a) 24) = w1 at *
  have HA := hide A1
  have HL := hide L1
  clear A1 L1
  go_wp2_with (first
    | (refine wpList_load_row rfl 24 _ rfl w.heap.size rfl 24 (num a) (0, 0) _ HA.out Try.underlying24 rfl info4 ?_)
    | fail)
  with_reducible refine (HB.out _).mono ?_
  rintro e w2 ⟨rfl, L⟩
  have HL2 := hide (below_trans_grows HL.out L HL.out.size)
  clear L
  go_wp2_with fail
  go_ret
  exact ⟨rfl, HL2.out⟩
end Go.Proofs.Ythdanjbgbbcafaa
