/- mods.times and Mul (printed by gen_times.py). -/
import Derived.Test.YthdanjbgbbcafaaWide
namespace Go.Proofs.Ythdanjbgbbcafaa
open Go Go.RowKit

theorem blen_short (m : Nat) : (blen m : Int) ≤ 64 ↔ m < 18446744073709551616 := by
  have h := isShort_spec m
  unfold isShort at h
  rw [decide_eq_true_iff] at h
  exact ⟨fun x => h.1 (by omega), fun x => by have := h.2 x; omega⟩
set_option maxRecDepth 100000 in
set_option maxHeartbeats 4000000 in
theorem times_word (a b m : Nat) (ha : a < m) (hb : b < m) (hm : m < 18446744073709551616) (w : World) : Calls Try.prog 57 #[.agg (num a), .agg (num b), .agg (num m)] w (NumEnds w (a * b % m)) := by
  have hbits := fun w => lbits_any m (by unfold big; omega) w
  have hle := (blen_short m).2 hm
  obtain ⟨n, hn⟩ : ∃ n : Nat, n = blen m := ⟨_, rfl⟩
  rw [← hn] at hbits hle
  have hword := fun w => mword_any a b m ha hb hm w
  have hrb : a * b % m < 18446744073709551616 := by have := Nat.mod_lt (a * b) (show 0 < m by omega); omega
  obtain ⟨r, er⟩ : ∃ r : Nat, r = a * b % m := ⟨_, rfl⟩
  rw [← er] at hword hrb ⊢
  have hof := fun w => lof_any r hrb w
  have a0 : (num a)[0]? = some (uw a) := by rw [num_at a 0 (by omega), wd_small a (by omega)]
  have b0 : (num b)[0]? = some (uw b) := by rw [num_at b 0 (by omega), wd_small b (by omega)]
  have m0 : (num m)[0]? = some (uw m) := by rw [num_at m 0 (by omega), wd_small m hm]
  have HB := hide hbits
  have HW := hide hword
  have HOF := hide hof
  have A0 := hide a0
  have B0 := hide b0
  have M0 := hide m0
  clear hbits hword hof a0 b0 m0 hn er hrb ha hb hm
  go_enter Try.func57, Try.ntmps57
  go_upto_region 1 with fail
  have M := ThreeMem.start w a b m 24 nought num_zero.symm
  change Code.wp _ _ _ _ ((((w.alloc (.cells (num a) 24)).alloc (.cells (num b) 24)).alloc (.cells (num m) 24)).alloc (.cells nought 24))
  generalize (((w.alloc (.cells (num a) 24)).alloc (.cells (num b) 24)).alloc (.cells (num m) 24)).alloc (.cells nought 24) = w1 at *
  have HM := hide M
  clear M
  go_wp2_with (first | (refine wpList_load_row rfl 24 _ rfl (w.heap.size + 1 + 1) rfl 24 (num m) (0, 0) _ HM.out.M Try.underlying24 rfl info4 ?_) | fail)
  with_reducible refine (HB.out _).mono ?_
  rintro e w2 ⟨rfl, L⟩
  have HM2 := hide (HM.out.grow L)
  clear L HM HB
  have ca := (HM2.out.A.cell 0).trans A0.out
  have cb := (HM2.out.B.cell 0).trans B0.out
  have cm := (HM2.out.M.cell 0).trans M0.out
  go_wp2_with fail
  with_reducible refine (HW.out _).mono ?_
  rintro e w3 ⟨rfl, L⟩
  have HM3 := hide (HM2.out.grow L)
  clear L HM2 HW ca cb cm
  go_wp2_with fail
  with_reducible refine (HOF.out _).mono ?_
  rintro e w4 ⟨rfl, L⟩
  have HM4 := hide (HM3.out.grow L)
  clear L HM3 HOF
  go_wp2_with (first | (refine wpList_store_row rfl 24 (.tmp 6) (.tmp 21) rfl (w.heap.size + 1 + 1 + 1) (num r) rfl rfl 24 _ (HM4.out.R) info4 rfl (num_one _) ?_))
  have hS := HM4.out.R.setRow (num r)
  exact bodyPost_ret (results_num rfl rfl hS) rfl ⟨rfl, below_setRow HM4.out.below (by omega) _⟩
set_option maxRecDepth 100000 in
set_option maxHeartbeats 4000000 in
theorem times_long (a b m : Nat) (ha : a < m) (hb : b < m) (hm0 : 18446744073709551616 ≤ m) (hm : m < big) (w : World) : Calls Try.prog 57 #[.agg (num a), .agg (num b), .agg (num m)] w (NumEnds w (a * b % m)) := by
  have hbits := fun w => lbits_any m hm w
  have hle : ¬ (blen m : Int) ≤ 64 := fun h => by have := (blen_short m).1 h; omega
  obtain ⟨n, hn⟩ : ∃ n : Nat, n = blen m := ⟨_, rfl⟩
  rw [← hn] at hbits hle
  have hmul := fun w => lmul_any a b (by omega) (by omega) w
  have hlo : a * b % big < big := Nat.mod_lt _ big_pos
  have hhi : a * b / big < big := by
    rw [Nat.div_lt_iff_lt_mul big_pos]
    exact Nat.mul_lt_mul'' (by omega) (by omega)
  have hwide := fun w => wide_any (a * b % big) (a * b / big) m hlo hhi hm0 hm w
  rw [Nat.mul_comm (a * b / big), Nat.div_add_mod] at hwide
  obtain ⟨r, er⟩ : ∃ r : Nat, r = a * b % m := ⟨_, rfl⟩
  obtain ⟨lo, el⟩ : ∃ lo : Nat, lo = a * b % big := ⟨_, rfl⟩
  obtain ⟨hi, eh⟩ : ∃ hi : Nat, hi = a * b / big := ⟨_, rfl⟩
  rw [← er, ← el, ← eh] at hwide
  rw [← el, ← eh] at hmul
  rw [← er]
  have HB := hide hbits
  have HMUL := hide hmul
  have HW := hide hwide
  clear hbits hmul hwide hn er el eh hlo hhi ha hb hm hm0
  go_enter Try.func57, Try.ntmps57
  go_upto_region 1 with fail
  have M := ThreeMem.start w a b m 24 nought num_zero.symm
  change Code.wp _ _ _ _ ((((w.alloc (.cells (num a) 24)).alloc (.cells (num b) 24)).alloc (.cells (num m) 24)).alloc (.cells nought 24))
  generalize (((w.alloc (.cells (num a) 24)).alloc (.cells (num b) 24)).alloc (.cells (num m) 24)).alloc (.cells nought 24) = w1 at *
  have HM := hide M
  clear M
  go_wp2_with (first | (refine wpList_load_row rfl 24 _ rfl (w.heap.size + 1 + 1) rfl 24 (num m) (0, 0) _ HM.out.M Try.underlying24 rfl info4 ?_) | fail)
  with_reducible refine (HB.out _).mono ?_
  rintro e w2 ⟨rfl, L⟩
  have HM2 := hide (HM.out.grow L)
  clear L HM HB
  go_wp2_with (first | (refine wpList_load_row rfl 24 _ rfl (w.heap.size) rfl 24 (num a) (0, 0) _ HM2.out.A Try.underlying24 rfl info4 ?_) | (refine wpList_load_row rfl 24 _ rfl (w.heap.size + 1) rfl 24 (num b) (0, 0) _ HM2.out.B Try.underlying24 rfl info4 ?_) | fail)
  with_reducible refine (HMUL.out _).mono ?_
  rintro e w3 ⟨rfl, L⟩
  have HM3 := hide (HM2.out.grow L)
  clear L HM2 HMUL
  have hsz := HM3.out.R.lt
  obtain ⟨b1, b2, b3, b4, b5⟩ := boxes_two w3 24 (num lo) (num hi)
  have HB1 := hide b1
  have HB2 := hide b2
  clear b1 b2
  go_upto_region 4 with (first | (refine wpList_store_row rfl 24 (.tmp 7) (.tmp 26) rfl (w3.heap.size) (num lo) rfl rfl 24 _ (HB1.out) info4 rfl (num_one _) ?_) | (refine wpList_store_row rfl 24 (.tmp 8) (.tmp 27) rfl (w3.heap.size + 1) (num hi) rfl rfl 24 _ (HB2.out) info4 rfl (num_one _) ?_))
  change Code.wp _ _ _ _ ((((w3.alloc (.cells nought 24)).alloc (.cells nought 24)).setRow w3.heap.size (num lo)).setRow (w3.heap.size + 1) (num hi))
  generalize (((w3.alloc (.cells nought 24)).alloc (.cells nought 24)).setRow w3.heap.size (num lo)).setRow (w3.heap.size + 1) (num hi) = w4 at *
  have HM4 := hide (HM3.out.grow b5)
  have HL4 := hide b3
  have HH4 := hide b4
  obtain ⟨g, hg⟩ : ∃ g : Nat, g = w3.heap.size := ⟨_, rfl⟩
  rw [← hg] at HL4 HH4 hsz ⊢
  clear b3 b4 b5 HB1 HB2 HM3 hg
  go_wp2_with (first | (refine wpList_load_row rfl 24 _ rfl (g) rfl 24 (num lo) (0, 0) _ HL4.out Try.underlying24 rfl info4 ?_) | (refine wpList_load_row rfl 24 _ rfl (g + 1) rfl 24 (num hi) (0, 0) _ HH4.out Try.underlying24 rfl info4 ?_) | (refine wpList_load_row rfl 24 _ rfl (w.heap.size + 1 + 1) rfl 24 (num m) (0, 0) _ HM4.out.M Try.underlying24 rfl info4 ?_) | fail)
  with_reducible refine (HW.out _).mono ?_
  rintro e w5 ⟨rfl, L⟩
  have HM5 := hide (HM4.out.grow L)
  clear L HM4 HL4 HH4 HW
  have hsz5 := HM5.out.R.lt
  have hbx := Blk.new w5 24 nought
  go_upto_region 5 with (first | (refine wpList_store_row rfl 24 (.tmp 9) (.tmp 33) rfl (w5.heap.size) (num r) rfl rfl 24 _ (Blk.new w5 _ nought) info4 rfl (num_one _) ?_))
  obtain ⟨R0, L0⟩ := num_box w5 24 (num r)
  change Code.wp _ _ _ _ ((w5.alloc (.cells nought 24)).setRow w5.heap.size (num r))
  generalize (w5.alloc (.cells nought 24)).setRow w5.heap.size (num r) = w6 at *
  have HM6 := hide (HM5.out.grow L0)
  have HR6 := hide R0
  obtain ⟨g9, hg9⟩ : ∃ g : Nat, g = w5.heap.size := ⟨_, rfl⟩
  rw [← hg9] at HR6 hsz5 ⊢
  clear R0 L0 HM5 hg9 hbx
  go_wp2_with (first | (refine wpList_load_row rfl 24 _ rfl (g9) rfl 24 (num r) (0, 0) _ HR6.out Try.underlying24 rfl info4 ?_) | (refine wpList_store_row rfl 24 (.tmp 6) (.tmp 35) rfl (w.heap.size + 1 + 1 + 1) (num r) rfl rfl 24 _ (HM6.out.R) info4 rfl (num_one _) ?_))
  have hS := HM6.out.R.setRow (num r)
  exact bodyPost_ret (results_num rfl rfl hS) rfl ⟨rfl, below_setRow HM6.out.below (by omega) _⟩
theorem times_any (a b m : Nat) (ha : a < m) (hb : b < m) (hm : m < big) (w : World) : Calls Try.prog 57 #[.agg (num a), .agg (num b), .agg (num m)] w (NumEnds w (a * b % m)) := by
  by_cases h : m < 18446744073709551616
  · exact times_word a b m ha hb h w
  · exact times_long a b m ha hb (by omega) hm w
set_option maxRecDepth 100000 in
set_option maxHeartbeats 4000000 in
theorem mmul_core (a b m r : Nat) (c : Int) (w : World) (HD : Keep (∀ w', Calls Try.prog 55 #[.agg #[.func (.func 57) #[] #[]], .agg (num a), .agg (num b), .agg (num m)] w' (MayEnds w' r c))) :
    Calls Try.prog 38 #[.agg (num a), .agg (num b), .agg (num m)] w (MayEnds w r c) := by
  go_enter Try.func38, Try.ntmps38
  go_upto_region 1 with fail
  have M := ThreeMem.start w a b m 24 nought num_zero.symm
  change Code.wp _ _ _ _ ((((w.alloc (.cells (num a) 24)).alloc (.cells (num b) 24)).alloc (.cells (num m) 24)).alloc (.cells nought 24))
  generalize (((w.alloc (.cells (num a) 24)).alloc (.cells (num b) 24)).alloc (.cells (num m) 24)).alloc (.cells nought 24) = w1 at *
  have HM := hide M
  clear M
  go_wp2_with (first | (refine wpList_load_row rfl 24 _ rfl (w.heap.size) rfl 24 (num a) (0, 0) _ HM.out.A Try.underlying24 rfl info4 ?_) | (refine wpList_load_row rfl 24 _ rfl (w.heap.size + 1) rfl 24 (num b) (0, 0) _ HM.out.B Try.underlying24 rfl info4 ?_) | (refine wpList_load_row rfl 24 _ rfl (w.heap.size + 1 + 1) rfl 24 (num m) (0, 0) _ HM.out.M Try.underlying24 rfl info4 ?_) | fail)
  with_reducible refine (HD.out _).mono ?_
  rintro e w2 ⟨rfl, L⟩
  have HM2 := hide (HM.out.grow L)
  clear L HM HD
  go_wp2_with (first | (refine wpList_store_row rfl 24 (.tmp 6) (.tmp 13) rfl (w.heap.size + 1 + 1 + 1) (num r) rfl rfl 24 _ (HM2.out.R) info4 rfl (num_one _) ?_))
  have hS := HM2.out.R.setRow (num r)
  exact bodyPost_ret (results_num_tmp rfl rfl hS) rfl ⟨rfl, below_setRow HM2.out.below (by omega) _⟩
theorem mmul_yes (a b m : Nat) (hm : m < big) (h1 : 1 < m) (h2 : a < m) (h3 : b < m) (w : World) : Calls Try.prog 38 #[.agg (num a), .agg (num b), .agg (num m)] w (MayEnds w (a * b % m) 0) :=
  mmul_core a b m _ _ w ⟨fun w' => deedOf_yes 57 #[] a b m _ (by omega) (by omega) hm h1 h2 h3 w' (fun w'' _ => times_any a b m h2 h3 hm w'') (enters_of Try.func57 (by kernel_rfl) rfl)⟩
theorem mmul_no (a b m : Nat) (ha : a < big) (hb : b < big) (hm : m < big) (h : mayB a b m = false) (w : World) : Calls Try.prog 38 #[.agg (num a), .agg (num b), .agg (num m)] w (MayEnds w 0 1) :=
  mmul_core a b m _ _ w ⟨fun w' => deedOf_no _ a b m ha hb hm h w'⟩
end Go.Proofs.Ythdanjbgbbcafaa
