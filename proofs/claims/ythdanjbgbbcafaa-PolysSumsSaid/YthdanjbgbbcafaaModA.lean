/- The deeds of mods: sums and differences that go round; deed.of, Add, Sub walked (printed by gen_moda.py). -/
import Derived.Test.YthdanjbgbbcafaaCommon
namespace Go.Proofs.Ythdanjbgbbcafaa
open Go Go.RowKit

/-- Three numbers that came in, and one to come. -/
structure ThreeMem (w : World) (a b m : Nat) (t24 : TypeId) (r : Nat) (wr : World) : Prop where
  below : Below w.heap.size w wr
  A : Blk wr w.heap.size t24 (num a)
  B : Blk wr (w.heap.size + 1) t24 (num b)
  M : Blk wr (w.heap.size + 1 + 1) t24 (num m)
  R : Blk wr (w.heap.size + 1 + 1 + 1) t24 (num r)
theorem ThreeMem.start (w : World) (a b m : Nat) (t24 : TypeId) (z : Array Value) (hz : z = num 0) : ThreeMem w a b m t24 0 ((((w.alloc (.cells (num a) t24)).alloc (.cells (num b) t24)).alloc (.cells (num m) t24)).alloc (.cells z t24)) := by
  subst hz
  refine ⟨((((Below.refl _ _).alloc (Nat.le_refl _) _).alloc ?_ _).alloc ?_ _).alloc ?_ _, (((Blk.new w _ _).alloc _).alloc _).alloc _, ?_, ?_, ?_⟩
  · simp
  · simp; omega
  · simp; omega
  · have h := ((Blk.new (w.alloc (.cells (num a) t24)) t24 (num b)).alloc (.cells (num m) t24)).alloc (.cells (num 0) t24)
    simp only [World.size_alloc] at h
    exact h
  · have h := (Blk.new ((w.alloc (.cells (num a) t24)).alloc (.cells (num b) t24)) t24 (num m)).alloc (.cells (num 0) t24)
    simp only [World.size_alloc] at h
    exact h
  · have h := Blk.new (((w.alloc (.cells (num a) t24)).alloc (.cells (num b) t24)).alloc (.cells (num m) t24)) t24 (num 0)
    simp only [World.size_alloc] at h
    exact h
theorem ThreeMem.grow {w wr w' : World} {a b m : Nat} {t24 : TypeId} {r : Nat} (h : ThreeMem w a b m t24 r wr) (hb : Grows wr w') : ThreeMem w a b m t24 r w' :=
  ⟨below_trans_grows h.below hb h.below.size, h.A.below hb h.A.lt, h.B.below hb h.B.lt, h.M.below hb h.M.lt, h.R.below hb h.R.lt⟩
theorem ThreeMem.far {w wr : World} {a b m : Nat} {t24 : TypeId} {r : Nat} (h : ThreeMem w a b m t24 r wr) {g : Nat} (hg : w.heap.size + 1 + 1 + 1 < g) (cs : Array Value) : ThreeMem w a b m t24 r (wr.setRow g cs) :=
  ⟨below_setRow h.below (by omega) _, h.A.setRow_far (by omega) _, h.B.setRow_far (by omega) _, h.M.setRow_far (by omega) _, h.R.setRow_far (by omega) _⟩
/-- Numbers below m, which is above 1. -/
def mayB (a b m : Nat) : Bool := decide (1 < m) && decide (a < m) && decide (b < m)
theorem mod_add_law (a b m : Nat) (ha : a < m) (hb : b < m) (hm : m < big) :
    ∃ X c Y l : Nat, X = (a + b) % big ∧ c = (a + b) / big ∧ Y = (X + big - m) % big ∧ l = (if X < m then 1 else 0) ∧ X < big ∧ (((c = 1 ∨ (c = 0 ∧ l = 0)) ∧ Y = (a + b) % m) ∨ (c = 0 ∧ l = 1 ∧ X = (a + b) % m)) := by
  have hbp := big_pos
  generalize big = B at *
  refine ⟨_, _, _, _, rfl, rfl, rfl, rfl, Nat.mod_lt _ hbp, ?_⟩
  by_cases hc : a + b < B
  · rw [Nat.mod_eq_of_lt hc, Nat.div_eq_of_lt hc]
    by_cases hl : a + b < m
    · rw [if_pos hl]
      exact .inr ⟨rfl, rfl, (Nat.mod_eq_of_lt hl).symm⟩
    · rw [if_neg hl]
      refine .inl ⟨.inr ⟨rfl, rfl⟩, ?_⟩
      rw [show a + b + B - m = (a + b - m) + B by omega, Nat.add_mod_right, Nat.mod_eq_of_lt (by omega), Nat.mod_eq_sub_mod (by omega), Nat.mod_eq_of_lt (by omega)]
  · have e2 : (a + b) / B = 1 := Nat.div_eq_of_lt_le (by omega) (by omega)
    have h3 := Nat.div_add_mod (a + b) B
    rw [e2] at h3 ⊢
    refine .inl ⟨.inl rfl, ?_⟩
    generalize (a + b) % B = X at *
    rw [show X + B - m = a + b - m by omega, Nat.mod_eq_of_lt (by omega), Nat.mod_eq_sub_mod (by omega), Nat.mod_eq_of_lt (by omega)]
theorem mod_sub_law (a b m : Nat) (ha : a < m) (hb : b < m) (hm : m < big) :
    ∃ X l Y : Nat, X = (a + big - b) % big ∧ l = (if a < b then 1 else 0) ∧ Y = (X + m) % big ∧ X < big ∧ ((l = 1 ∧ Y = (a + m - b) % m) ∨ (l = 0 ∧ X = (a + m - b) % m)) := by
  have hbp := big_pos
  generalize big = B at *
  refine ⟨_, _, _, rfl, rfl, rfl, Nat.mod_lt _ hbp, ?_⟩
  by_cases hl : a < b
  · rw [if_pos hl, Nat.mod_eq_of_lt (show a + B - b < B by omega)]
    refine .inl ⟨rfl, ?_⟩
    rw [show a + B - b + m = (a + m - b) + B by omega, Nat.add_mod_right, Nat.mod_eq_of_lt (by omega), Nat.mod_eq_of_lt (by omega)]
  · rw [if_neg hl]
    refine .inr ⟨rfl, ?_⟩
    rw [show a + B - b = (a - b) + B by omega, Nat.add_mod_right, Nat.mod_eq_of_lt (by omega), show a + m - b = (a - b) + m by omega, Nat.add_mod_right, Nat.mod_eq_of_lt (by omega)]
set_option maxRecDepth 100000 in
set_option maxHeartbeats 2000000 in
theorem addDeed_any (a b m : Nat) (ha : a < m) (hb : b < m) (hm : m < big) (w : World) : Calls Try.prog 52 #[.agg (num a), .agg (num b), .agg (num m)] w (NumEnds w ((a + b) % m)) := by
  obtain ⟨X, c, Y, l, eX, ec, eY, el, hX, hcase⟩ := mod_add_law a b m ha hb hm
  have hadd := fun w => ladd_any a b (by omega) (by omega) w
  have hsub := fun w => lsub_any X m hX hm w
  rw [← eX, ← ec] at hadd
  rw [← eY, ← el] at hsub
  have HADD := hide hadd
  have HSUB := hide hsub
  have HC := hide hcase
  clear hadd hsub hcase eX ec eY el hX ha hb hm
  go_enter Try.func52, Try.ntmps52
  go_upto_region 1 with fail
  have M := ThreeMem.start w a b m 24 nought num_zero.symm
  change Code.wp _ _ _ _ ((((w.alloc (.cells (num a) 24)).alloc (.cells (num b) 24)).alloc (.cells (num m) 24)).alloc (.cells nought 24))
  generalize (((w.alloc (.cells (num a) 24)).alloc (.cells (num b) 24)).alloc (.cells (num m) 24)).alloc (.cells nought 24) = w1 at *
  have HM := hide M
  clear M
  go_wp2_with (first | (refine wpList_load_row rfl 24 _ rfl (w.heap.size) rfl 24 (num a) (0, 0) _ HM.out.A Try.underlying24 rfl info4 ?_) | (refine wpList_load_row rfl 24 _ rfl (w.heap.size + 1) rfl 24 (num b) (0, 0) _ HM.out.B Try.underlying24 rfl info4 ?_) | fail)
  with_reducible refine (HADD.out _).mono ?_
  rintro e w2 ⟨rfl, L⟩
  have HM' := hide (HM.out.grow L)
  have hsz := HM'.out.R.lt
  clear L
  go_upto_region 2 with (refine wpList_store_row rfl 24 (.tmp 7) (.tmp 15) rfl w2.heap.size (num X) rfl rfl 24 _ (Blk.new w2 _ nought) info4 rfl (num_one _) ?_)
  obtain ⟨R, L⟩ := num_box w2 24 (num X)
  change Code.wp _ _ _ _ ((w2.alloc (.cells nought 24)).setRow w2.heap.size (num X))
  generalize (w2.alloc (.cells nought 24)).setRow w2.heap.size (num X) = w3 at *
  have HM3 := hide (HM'.out.grow L)
  have hg8 : w.heap.size + 1 + 1 + 1 < w2.heap.size := hsz
  have HX := hide R
  obtain ⟨g8, hg8e⟩ : ∃ g : Nat, g = w2.heap.size := ⟨_, rfl⟩
  rw [← hg8e] at hg8 HX ⊢
  clear L R HADD hg8e HM' HM hsz
  go_wp2_with (first | (refine wpList_load_row rfl 24 _ rfl (g8) rfl 24 (num X) (0, 0) _ HX.out Try.underlying24 rfl info4 ?_) | (refine wpList_load_row rfl 24 _ rfl (w.heap.size + 1 + 1) rfl 24 (num m) (0, 0) _ HM3.out.M Try.underlying24 rfl info4 ?_) | fail)
  with_reducible refine (HSUB.out _).mono ?_
  rintro e w4 ⟨rfl, L4⟩
  have HM3' := hide (HM3.out.grow L4)
  have hsz := HM3'.out.R.lt
  go_upto_region 3 with (refine wpList_store_row rfl 24 (.tmp 9) (.tmp 21) rfl w4.heap.size (num Y) rfl rfl 24 _ (Blk.new w4 _ nought) info4 rfl (num_one _) ?_)
  obtain ⟨R, L⟩ := num_box w4 24 (num Y)
  change Code.wp _ _ _ _ ((w4.alloc (.cells nought 24)).setRow w4.heap.size (num Y))
  generalize (w4.alloc (.cells nought 24)).setRow w4.heap.size (num Y) = w5 at *
  have HM5 := hide (HM3'.out.grow L)
  have HX4 := hide (HX.out.below L4 HX.out.lt)
  have HX5 := hide (HX4.out.below L HX4.out.lt)
  clear L4
  have HY := hide R
  have hg9 : g8 < w4.heap.size := HX4.out.lt
  obtain ⟨g9, hg9e⟩ : ∃ g : Nat, g = w4.heap.size := ⟨_, rfl⟩
  rw [← hg9e] at hg9 HY ⊢
  clear L R HSUB hg9e HM3' HM3 hsz HX HX4
  rcases HC.out with ⟨h1, h2⟩ | ⟨h1, h2, h3⟩
  · have HE := hide h2
    clear h2 HC
    rcases h1 with rfl | ⟨rfl, rfl⟩
    all_goals
      go_wp2_with (first | (refine wpList_load_row rfl 24 _ rfl (g9) rfl 24 (num Y) (0, 0) _ HY.out Try.underlying24 rfl info4 ?_) | (refine wpList_store_row rfl 24 (.tmp 6) (.tmp 29) rfl (w.heap.size + 1 + 1 + 1) (num Y) rfl rfl 24 _ (HM5.out.R) info4 rfl (num_one _) ?_))
      have hS := HM5.out.R.setRow (num Y)
      exact bodyPost_ret (results_num rfl rfl hS) rfl ⟨by rw [← HE.out]; rfl, below_setRow HM5.out.below (by omega) _⟩
  · have HE := hide h3
    subst h1
    subst h2
    clear h3 HC
    go_wp2_with (first | (refine wpList_load_row rfl 24 _ rfl (g8) rfl 24 (num X) (0, 0) _ HX5.out Try.underlying24 rfl info4 ?_) | (refine wpList_store_row rfl 24 (.tmp 6) (.tmp 30) rfl (w.heap.size + 1 + 1 + 1) (num X) rfl rfl 24 _ (HM5.out.R) info4 rfl (num_one _) ?_))
    have hS := HM5.out.R.setRow (num X)
    exact bodyPost_ret (results_num rfl rfl hS) rfl ⟨by rw [← HE.out]; rfl, below_setRow HM5.out.below (by omega) _⟩
set_option maxRecDepth 100000 in
set_option maxHeartbeats 2000000 in
theorem subDeed_any (a b m : Nat) (ha : a < m) (hb : b < m) (hm : m < big) (w : World) : Calls Try.prog 56 #[.agg (num a), .agg (num b), .agg (num m)] w (NumEnds w ((a + m - b) % m)) := by
  obtain ⟨X, l, Y, eX, el, eY, hX, hcase⟩ := mod_sub_law a b m ha hb hm
  have hsub := fun w => lsub_any a b (by omega) (by omega) w
  have hadd := fun w => ladd_any X m hX hm w
  rw [← eX, ← el] at hsub
  obtain ⟨c, hc⟩ : ∃ c : Nat, c = (X + m) / big := ⟨_, rfl⟩
  rw [← eY, ← hc] at hadd
  have HADD := hide hadd
  have HSUB := hide hsub
  have HC := hide hcase
  clear hadd hsub hcase eX el eY hc hX ha hb hm
  go_enter Try.func56, Try.ntmps56
  go_upto_region 1 with fail
  have M := ThreeMem.start w a b m 24 nought num_zero.symm
  change Code.wp _ _ _ _ ((((w.alloc (.cells (num a) 24)).alloc (.cells (num b) 24)).alloc (.cells (num m) 24)).alloc (.cells nought 24))
  generalize (((w.alloc (.cells (num a) 24)).alloc (.cells (num b) 24)).alloc (.cells (num m) 24)).alloc (.cells nought 24) = w1 at *
  have HM := hide M
  clear M
  go_wp2_with (first | (refine wpList_load_row rfl 24 _ rfl (w.heap.size) rfl 24 (num a) (0, 0) _ HM.out.A Try.underlying24 rfl info4 ?_) | (refine wpList_load_row rfl 24 _ rfl (w.heap.size + 1) rfl 24 (num b) (0, 0) _ HM.out.B Try.underlying24 rfl info4 ?_) | fail)
  with_reducible refine (HSUB.out _).mono ?_
  rintro e w2 ⟨rfl, L⟩
  have HM' := hide (HM.out.grow L)
  have hsz := HM'.out.R.lt
  clear L
  go_upto_region 2 with (refine wpList_store_row rfl 24 (.tmp 7) (.tmp 13) rfl w2.heap.size (num X) rfl rfl 24 _ (Blk.new w2 _ nought) info4 rfl (num_one _) ?_)
  obtain ⟨R, L⟩ := num_box w2 24 (num X)
  change Code.wp _ _ _ _ ((w2.alloc (.cells nought 24)).setRow w2.heap.size (num X))
  generalize (w2.alloc (.cells nought 24)).setRow w2.heap.size (num X) = w3 at *
  have HM3 := hide (HM'.out.grow L)
  have hg8 : w.heap.size + 1 + 1 + 1 < w2.heap.size := hsz
  have HX := hide R
  obtain ⟨g8, hg8e⟩ : ∃ g : Nat, g = w2.heap.size := ⟨_, rfl⟩
  rw [← hg8e] at hg8 HX ⊢
  clear L R HSUB hg8e HM' HM hsz
  rcases HC.out with ⟨rfl, h2⟩ | ⟨rfl, h2⟩
  · have HE := hide h2
    clear h2 HC
    go_wp2_with (first | (refine wpList_load_row rfl 24 _ rfl (g8) rfl 24 (num X) (0, 0) _ HX.out Try.underlying24 rfl info4 ?_) | (refine wpList_load_row rfl 24 _ rfl (w.heap.size + 1 + 1) rfl 24 (num m) (0, 0) _ HM3.out.M Try.underlying24 rfl info4 ?_) | fail)
    with_reducible refine (HADD.out _).mono ?_
    rintro e w4 ⟨rfl, L⟩
    have HM4 := hide (HM3.out.grow L)
    have HX4 := hide (HX.out.below L HX.out.lt)
    have HM5 := hide (HM4.out.far hg8 (num Y))
    have HX5 := hide (HX4.out.setRow (num Y))
    clear L HX HM3 HADD
    go_wp2_with (first | (refine wpList_store_row rfl 24 (.tmp 7) (.tmp 21) rfl (g8) (num Y) rfl rfl 24 _ (HX4.out) info4 rfl (num_one _) ?_) | (refine wpList_load_row rfl 24 _ rfl (g8) rfl 24 (num Y) (0, 0) _ HX5.out Try.underlying24 rfl info4 ?_) | (refine wpList_store_row rfl 24 (.tmp 6) (.tmp 23) rfl (w.heap.size + 1 + 1 + 1) (num Y) rfl rfl 24 _ (HM5.out.R) info4 rfl (num_one _) ?_))
    have hS := HM5.out.R.setRow (num Y)
    exact bodyPost_ret (results_num rfl rfl hS) rfl ⟨by rw [← HE.out]; rfl, below_setRow HM5.out.below (by omega) _⟩
  · have HE := hide h2
    clear h2 HC
    go_wp2_with (first | (refine wpList_load_row rfl 24 _ rfl (g8) rfl 24 (num X) (0, 0) _ HX.out Try.underlying24 rfl info4 ?_) | (refine wpList_store_row rfl 24 (.tmp 6) (.tmp 23) rfl (w.heap.size + 1 + 1 + 1) (num X) rfl rfl 24 _ (HM3.out.R) info4 rfl (num_one _) ?_))
    have hS := HM3.out.R.setRow (num X)
    exact bodyPost_ret (results_num rfl rfl hS) rfl ⟨by rw [← HE.out]; rfl, below_setRow HM3.out.below (by omega) _⟩
end Go.Proofs.Ythdanjbgbbcafaa
