/- mods.Inv itself. -/
import Derived.Test.YthdanjbgbbcafaaInv
namespace Go.Proofs.Ythdanjbgbbcafaa
open Go Go.RowKit

/-- Two numbers that came in, and one to come. -/
structure TwoMem (w : World) (a b : Nat) (t24 : TypeId) (r : Nat) (wr : World) : Prop where
  below : Below w.heap.size w wr
  A : Blk wr w.heap.size t24 (num a)
  B : Blk wr (w.heap.size + 1) t24 (num b)
  R : Blk wr (w.heap.size + 1 + 1) t24 (num r)
theorem TwoMem.start (w : World) (a b : Nat) (t24 : TypeId) (z : Array Value) (hz : z = num 0) : TwoMem w a b t24 0 (((w.alloc (.cells (num a) t24)).alloc (.cells (num b) t24)).alloc (.cells z t24)) := by
  subst hz
  refine ⟨(((Below.refl _ _).alloc (Nat.le_refl _) _).alloc ?_ _).alloc ?_ _, ((Blk.new w _ _).alloc _).alloc _, ?_, ?_⟩
  · simp
  · simp; omega
  · have h := (Blk.new (w.alloc (.cells (num a) t24)) t24 (num b)).alloc (.cells (num 0) t24)
    simp only [World.size_alloc] at h
    exact h
  · have h := Blk.new ((w.alloc (.cells (num a) t24)).alloc (.cells (num b) t24)) t24 (num 0)
    simp only [World.size_alloc] at h
    exact h
theorem TwoMem.grow {w wr w' : World} {a b : Nat} {t24 : TypeId} {r : Nat} (h : TwoMem w a b t24 r wr) (hb : Grows wr w') : TwoMem w a b t24 r w' :=
  ⟨below_trans_grows h.below hb h.below.size, h.A.below hb h.A.lt, h.B.below hb h.B.lt, h.R.below hb h.R.lt⟩
theorem TwoMem.drew {w wr : World} {a b : Nat} {t24 : TypeId} {r : Nat} (h : TwoMem w a b t24 r wr) : TwoMem w a b t24 r wr.drew :=
  ⟨h.below.drew, h.A.drew, h.B.drew, h.R.drew⟩
set_option maxRecDepth 100000 in
set_option maxHeartbeats 4000000 in
theorem minv_core1 (a m r : Nat) (w : World) (HD : Keep (∀ w', Calls Try.prog 55 #[.agg #[.func (.func 58) #[] #[]], .agg (num a), .agg (num a), .agg (num m)] w' (MayEnds w' r 1))) :
    Calls Try.prog 41 #[.agg (num a), .agg (num m)] w (MayEnds w r 1) := by
  go_enter Try.func41, Try.ntmps41
  go_upto_region 1 with fail
  have M := TwoMem.start w a m 24 nought num_zero.symm
  change Code.wp _ _ _ _ (((w.alloc (.cells (num a) 24)).alloc (.cells (num m) 24)).alloc (.cells nought 24))
  generalize ((w.alloc (.cells (num a) 24)).alloc (.cells (num m) 24)).alloc (.cells nought 24) = w1 at *
  have HM := hide M
  clear M
  go_wp2_with (first | (refine wpList_load_row rfl 24 _ rfl (w.heap.size) rfl 24 (num a) (0, 0) _ HM.out.A Try.underlying24 rfl info4 ?_) | (refine wpList_load_row rfl 24 _ rfl (w.heap.size + 1) rfl 24 (num m) (0, 0) _ HM.out.B Try.underlying24 rfl info4 ?_) | fail)
  with_reducible refine (HD.out _).mono ?_
  rintro e w2 ⟨rfl, L⟩
  have HM2 := hide (HM.out.grow L)
  clear L HM HD
  have hsz := HM2.out.R.lt
  go_wp2_with (first | (refine wpList_store_row rfl 24 (.tmp 6) (.tmp 14) rfl (w2.heap.size) (num r) rfl rfl 24 _ (Blk.new w2 _ nought) info4 rfl (num_one _) ?_))
  obtain ⟨R0, L0⟩ := num_box w2 24 (num r)
  change Code.wp _ _ _ _ ((w2.alloc (.cells nought 24)).setRow w2.heap.size (num r))
  generalize (w2.alloc (.cells nought 24)).setRow w2.heap.size (num r) = w3 at *
  have HM3 := hide (HM2.out.grow L0)
  have HR3 := hide R0
  obtain ⟨g6, hg6⟩ : ∃ g : Nat, g = w2.heap.size := ⟨_, rfl⟩
  rw [← hg6] at HR3 hsz ⊢
  clear R0 L0 HM2 hg6
  have lr := load_growsN HR3.out.drew
  refine wp_region_kinds 7 (by kernel_rfl) (by kernel_rfl) (fun F hF => ?_)
  repeat (first
    | refine kinds_move_is _ rfl (Or.inl rfl) rfl ?_
    | refine kinds_move_is _ rfl (Or.inr rfl) rfl ?_
    | refine kinds_on rfl rfl rfl (kinds_load 6 24 rfl rfl rfl lr ?_)
    | refine kinds_off rfl rfl rfl rfl ?_
    | refine kinds_off' rfl rfl rfl ?_
    | ((first | refine kinds_on rfl rfl rfl ?_ | skip)
       apply kinds_is rfl
       · intro ρ wv K hw hf hK
         first | obtain ⟨e0, e1, e2, e3, e4, e5, e6, -⟩ := hf | obtain ⟨e0, e1, e2, e3, e4, e5, -⟩ := hf | obtain ⟨e0, e1, e2, e3, e4, -⟩ := hf | obtain ⟨e0, e1, e2, e3, -⟩ := hf | obtain ⟨e0, e1, e2, -⟩ := hf | obtain ⟨e0, e1, -⟩ := hf | obtain ⟨e0, -⟩ := hf | clear hf
         (try change ρ _ = _ at e0)
         (try change ρ _ = _ at e1)
         (try change ρ _ = _ at e2)
         (try change ρ _ = _ at e3)
         unfold gives
         go_simp
         first
           | (change Calls _ _ _ _ _; (go_at_call 33; (with_reducible refine (HOF.out _).mono ?_); rintro e w' ⟨rfl, hb⟩; exact ⟨_, rfl, hK _ hb⟩))
           | ((try go_ints); (try rw [if_pos (by omega)]); exact hK _ (Grows.refl _))))
  refine kinds_nil (hF _ rfl rfl (fun ww hg => ?_))
  clear hF F
  simp only [pushSlot, finish, Act.put, List.setIfInBounds_toArray, List.set_cons_succ, List.set_cons_zero]
  simp only [List.drop_succ_cons, List.drop_zero]
  have HM4 := hide (HM3.out.drew.grow hg)
  have HR4 := hide (HR3.out.drew.below hg HR3.out.drew.lt)
  clear hg lr HM3 HR3
  go_wp2_with (first | (refine wpList_load_row rfl 24 _ rfl g6 rfl 24 (num r) (0, 0) _ HR4.out Try.underlying24 rfl info4 ?_) | (refine wpList_store_row rfl 24 (.tmp 4) (.tmp 23) rfl (w.heap.size + 1 + 1) (num r) rfl rfl 24 _ (HM4.out.R) info4 rfl (num_one _) ?_))
  have hS := HM4.out.R.setRow (num r)
  exact bodyPost_ret (results_num_tmp rfl rfl hS) rfl ⟨rfl, below_setRow HM4.out.below (by omega) _⟩
set_option maxRecDepth 100000 in
set_option maxHeartbeats 4000000 in
theorem minv_core0 (a m r : Nat) (hr : r < big) (hr0 : r ≠ 0) (w : World) (HD : Keep (∀ w', Calls Try.prog 55 #[.agg #[.func (.func 58) #[] #[]], .agg (num a), .agg (num a), .agg (num m)] w' (MayEnds w' r 0))) :
    Calls Try.prog 41 #[.agg (num a), .agg (num m)] w (MayEnds w r 0) := by
  have hof : ∀ w, Calls Try.prog 33 #[.int .u64 0] w (NumEnds w 0) := fun w => lof_any 0 (by decide) w
  have HOF := hide hof
  clear hof
  have heq := num_eql r 0 hr big_pos
  rw [decide_eq_false hr0] at heq
  clear hr hr0
  go_enter Try.func41, Try.ntmps41
  go_upto_region 1 with fail
  have M := TwoMem.start w a m 24 nought num_zero.symm
  change Code.wp _ _ _ _ (((w.alloc (.cells (num a) 24)).alloc (.cells (num m) 24)).alloc (.cells nought 24))
  generalize ((w.alloc (.cells (num a) 24)).alloc (.cells (num m) 24)).alloc (.cells nought 24) = w1 at *
  have HM := hide M
  clear M
  go_wp2_with (first | (refine wpList_load_row rfl 24 _ rfl (w.heap.size) rfl 24 (num a) (0, 0) _ HM.out.A Try.underlying24 rfl info4 ?_) | (refine wpList_load_row rfl 24 _ rfl (w.heap.size + 1) rfl 24 (num m) (0, 0) _ HM.out.B Try.underlying24 rfl info4 ?_) | fail)
  with_reducible refine (HD.out _).mono ?_
  rintro e w2 ⟨rfl, L⟩
  have HM2 := hide (HM.out.grow L)
  clear L HM HD
  have hsz := HM2.out.R.lt
  go_wp2_with (first | (refine wpList_store_row rfl 24 (.tmp 6) (.tmp 14) rfl (w2.heap.size) (num r) rfl rfl 24 _ (Blk.new w2 _ nought) info4 rfl (num_one _) ?_))
  obtain ⟨R0, L0⟩ := num_box w2 24 (num r)
  change Code.wp _ _ _ _ ((w2.alloc (.cells nought 24)).setRow w2.heap.size (num r))
  generalize (w2.alloc (.cells nought 24)).setRow w2.heap.size (num r) = w3 at *
  have HM3 := hide (HM2.out.grow L0)
  have HR3 := hide R0
  obtain ⟨g6, hg6⟩ : ∃ g : Nat, g = w2.heap.size := ⟨_, rfl⟩
  rw [← hg6] at HR3 hsz ⊢
  clear R0 L0 HM2 hg6
  have lr := load_growsN HR3.out.drew
  refine wp_region_kinds 7 (by kernel_rfl) (by kernel_rfl) (fun F hF => ?_)
  repeat (first
    | refine kinds_move_is _ rfl (Or.inl rfl) rfl ?_
    | refine kinds_move_is _ rfl (Or.inr rfl) rfl ?_
    | refine kinds_on rfl rfl rfl (kinds_load 6 24 rfl rfl rfl lr ?_)
    | refine kinds_off rfl rfl rfl rfl ?_
    | refine kinds_off' rfl rfl rfl ?_
    | ((first | refine kinds_on rfl rfl rfl ?_ | skip)
       apply kinds_is rfl
       · intro ρ wv K hw hf hK
         first | obtain ⟨e0, e1, e2, e3, e4, e5, e6, -⟩ := hf | obtain ⟨e0, e1, e2, e3, e4, e5, -⟩ := hf | obtain ⟨e0, e1, e2, e3, e4, -⟩ := hf | obtain ⟨e0, e1, e2, e3, -⟩ := hf | obtain ⟨e0, e1, e2, -⟩ := hf | obtain ⟨e0, e1, -⟩ := hf | obtain ⟨e0, -⟩ := hf | clear hf
         (try change ρ _ = _ at e0)
         (try change ρ _ = _ at e1)
         (try change ρ _ = _ at e2)
         (try change ρ _ = _ at e3)
         unfold gives
         go_simp
         first
           | (change Calls _ _ _ _ _; (go_at_call 33; (with_reducible refine (HOF.out _).mono ?_); rintro e w' ⟨rfl, hb⟩; exact ⟨_, rfl, hK _ hb⟩))
           | ((try go_ints); (try rw [if_pos (by omega)]); exact hK _ (Grows.refl _))))
  refine kinds_nil (hF _ rfl rfl (fun ww hg => ?_))
  clear hF F
  simp only [pushSlot, finish, Act.put, List.setIfInBounds_toArray, List.set_cons_succ, List.set_cons_zero]
  simp only [List.drop_succ_cons, List.drop_zero]
  have HM4 := hide (HM3.out.drew.grow hg)
  have HR4 := hide (HR3.out.drew.below hg HR3.out.drew.lt)
  clear hg lr HM3 HR3
  go_wp2_with (first | (refine wpList_load_row rfl 24 _ rfl g6 rfl 24 (num r) (0, 0) _ HR4.out Try.underlying24 rfl info4 ?_) | (refine wpList_store_row rfl 24 (.tmp 4) (.tmp 23) rfl (w.heap.size + 1 + 1) (num r) rfl rfl 24 _ (HM4.out.R) info4 rfl (num_one _) ?_))
  have hS := HM4.out.R.setRow (num r)
  exact bodyPost_ret (results_num_tmp rfl rfl hS) rfl ⟨rfl, below_setRow HM4.out.below (by omega) _⟩
set_option maxRecDepth 100000 in
set_option maxHeartbeats 4000000 in
theorem minv_core7 (a m r : Nat) (hr : r < big) (hr0 : r = 0) (w : World) (HD : Keep (∀ w', Calls Try.prog 55 #[.agg #[.func (.func 58) #[] #[]], .agg (num a), .agg (num a), .agg (num m)] w' (MayEnds w' r 0))) :
    Calls Try.prog 41 #[.agg (num a), .agg (num m)] w (MayEnds w r 7) := by
  have hof : ∀ w, Calls Try.prog 33 #[.int .u64 0] w (NumEnds w 0) := fun w => lof_any 0 (by decide) w
  have HOF := hide hof
  clear hof
  have heq := num_eql r 0 hr big_pos
  rw [decide_eq_true hr0] at heq
  clear hr hr0
  go_enter Try.func41, Try.ntmps41
  go_upto_region 1 with fail
  have M := TwoMem.start w a m 24 nought num_zero.symm
  change Code.wp _ _ _ _ (((w.alloc (.cells (num a) 24)).alloc (.cells (num m) 24)).alloc (.cells nought 24))
  generalize ((w.alloc (.cells (num a) 24)).alloc (.cells (num m) 24)).alloc (.cells nought 24) = w1 at *
  have HM := hide M
  clear M
  go_wp2_with (first | (refine wpList_load_row rfl 24 _ rfl (w.heap.size) rfl 24 (num a) (0, 0) _ HM.out.A Try.underlying24 rfl info4 ?_) | (refine wpList_load_row rfl 24 _ rfl (w.heap.size + 1) rfl 24 (num m) (0, 0) _ HM.out.B Try.underlying24 rfl info4 ?_) | fail)
  with_reducible refine (HD.out _).mono ?_
  rintro e w2 ⟨rfl, L⟩
  have HM2 := hide (HM.out.grow L)
  clear L HM HD
  have hsz := HM2.out.R.lt
  go_wp2_with (first | (refine wpList_store_row rfl 24 (.tmp 6) (.tmp 14) rfl (w2.heap.size) (num r) rfl rfl 24 _ (Blk.new w2 _ nought) info4 rfl (num_one _) ?_))
  obtain ⟨R0, L0⟩ := num_box w2 24 (num r)
  change Code.wp _ _ _ _ ((w2.alloc (.cells nought 24)).setRow w2.heap.size (num r))
  generalize (w2.alloc (.cells nought 24)).setRow w2.heap.size (num r) = w3 at *
  have HM3 := hide (HM2.out.grow L0)
  have HR3 := hide R0
  obtain ⟨g6, hg6⟩ : ∃ g : Nat, g = w2.heap.size := ⟨_, rfl⟩
  rw [← hg6] at HR3 hsz ⊢
  clear R0 L0 HM2 hg6
  have lr := load_growsN HR3.out.drew
  refine wp_region_kinds 7 (by kernel_rfl) (by kernel_rfl) (fun F hF => ?_)
  repeat (first
    | refine kinds_move_is _ rfl (Or.inl rfl) rfl ?_
    | refine kinds_move_is _ rfl (Or.inr rfl) rfl ?_
    | refine kinds_on rfl rfl rfl (kinds_load 6 24 rfl rfl rfl lr ?_)
    | refine kinds_off rfl rfl rfl rfl ?_
    | refine kinds_off' rfl rfl rfl ?_
    | ((first | refine kinds_on rfl rfl rfl ?_ | skip)
       apply kinds_is rfl
       · intro ρ wv K hw hf hK
         first | obtain ⟨e0, e1, e2, e3, e4, e5, e6, -⟩ := hf | obtain ⟨e0, e1, e2, e3, e4, e5, -⟩ := hf | obtain ⟨e0, e1, e2, e3, e4, -⟩ := hf | obtain ⟨e0, e1, e2, e3, -⟩ := hf | obtain ⟨e0, e1, e2, -⟩ := hf | obtain ⟨e0, e1, -⟩ := hf | obtain ⟨e0, -⟩ := hf | clear hf
         (try change ρ _ = _ at e0)
         (try change ρ _ = _ at e1)
         (try change ρ _ = _ at e2)
         (try change ρ _ = _ at e3)
         unfold gives
         go_simp
         first
           | (change Calls _ _ _ _ _; (go_at_call 33; (with_reducible refine (HOF.out _).mono ?_); rintro e w' ⟨rfl, hb⟩; exact ⟨_, rfl, hK _ hb⟩))
           | ((try go_ints); (try rw [if_pos (by omega)]); exact hK _ (Grows.refl _))))
  refine kinds_nil (hF _ rfl rfl (fun ww hg => ?_))
  clear hF F
  simp only [pushSlot, finish, Act.put, List.setIfInBounds_toArray, List.set_cons_succ, List.set_cons_zero]
  simp only [List.drop_succ_cons, List.drop_zero]
  have HM4 := hide (HM3.out.drew.grow hg)
  have HR4 := hide (HR3.out.drew.below hg HR3.out.drew.lt)
  clear hg lr HM3 HR3
  go_wp2_with (first | (refine wpList_load_row rfl 24 _ rfl g6 rfl 24 (num r) (0, 0) _ HR4.out Try.underlying24 rfl info4 ?_) | (refine wpList_store_row rfl 24 (.tmp 4) (.tmp 23) rfl (w.heap.size + 1 + 1) (num r) rfl rfl 24 _ (HM4.out.R) info4 rfl (num_one _) ?_))
  have hS := HM4.out.R.setRow (num r)
  exact bodyPost_ret (results_num_tmp rfl rfl hS) rfl ⟨rfl, below_setRow HM4.out.below (by omega) _⟩
theorem minv_no (a m : Nat) (ha : a < big) (hm : m < big) (h : mayB a a m = false) (w : World) : Calls Try.prog 41 #[.agg (num a), .agg (num m)] w (MayEnds w 0 1) :=
  minv_core1 a m 0 w ⟨fun w' => deedOf_no _ a a m ha ha hm h w'⟩
theorem invN_lt {a m : Nat} (h1 : 1 < m) : invN a m < m := by
  unfold invN
  split
  · rename_i h; exact (Classical.choose_spec h).1
  · omega
theorem minv_none (a m : Nat) (hm : m < big) (h1 : 1 < m) (h2 : a < m) (h : Nat.gcd a m ≠ 1) (w : World) : Calls Try.prog 41 #[.agg (num a), .agg (num m)] w (MayEnds w 0 7) :=
  minv_core7 a m 0 big_pos rfl w ⟨fun w' => deedOf_yes 58 #[] a a m 0 (by omega) (by omega) hm h1 h2 h2 w' (fun w'' _ => invDeed_no a a m (by omega) hm h w'') (enters_of Try.func58 (by kernel_rfl) rfl)⟩
theorem inv_ex (a m : Nat) (h1 : 1 < m) : ∀ (n r s x y : Nat), s ≤ n → r ≤ m → 1 ≤ s → s < m → x < m → y < m → Nat.gcd r s = 1 → x * a % m = r % m → y * a % m = s % m → ∃ z, z < m ∧ a * z % m = 1
  | 0, _, s, _, _, hn, _, hs, _, _, _, _, _, _ => by omega
  | n + 1, r, s, x, y, hn, hr, hs, hsm, hx, hy, hg, e1, e2 => by
    by_cases h : s = 1
    · exact ⟨y, hy, by rw [Nat.mul_comm, e2, h]; exact Nat.mod_eq_of_lt h1⟩
    · obtain ⟨p1, p2, p3, p4, p5, p6, p7⟩ := inv_step m a r s x y h1 hr (by omega) hx hg e1 e2
      exact inv_ex a m h1 n s (r % s) y _ (by omega) (by omega) p2 (by omega) hy p6 p4 e2 p7
theorem invN_spec {a m : Nat} (h1 : 1 < m) (ha : a < m) (h : Nat.gcd a m = 1) : a * invN a m % m = 1 := by
  have ha1 : 1 ≤ a := by
    rcases Nat.eq_zero_or_pos a with h0 | h0
    · rw [h0, Nat.gcd_zero_left] at h; omega
    · exact h0
  have hx := inv_ex a m h1 a m a 0 1 (Nat.le_refl a) (Nat.le_refl m) ha1 ha (by omega) h1 (by rw [Nat.gcd_comm]; exact h) (by rw [Nat.zero_mul, Nat.mod_self, Nat.zero_mod]) (by rw [Nat.one_mul])
  unfold invN
  rw [dif_pos hx]
  exact (Classical.choose_spec hx).2
theorem invN_pos {a m : Nat} (h1 : 1 < m) (ha : a < m) (h : Nat.gcd a m = 1) : invN a m ≠ 0 := fun e => by
  have := invN_spec h1 ha h
  rw [e, Nat.mul_zero, Nat.zero_mod] at this
  omega
theorem minv_yes (a m : Nat) (hm : m < big) (h1 : 1 < m) (h2 : a < m) (h : Nat.gcd a m = 1) (w : World) : Calls Try.prog 41 #[.agg (num a), .agg (num m)] w (MayEnds w (invN a m) 0) :=
  minv_core0 a m (invN a m) (Nat.lt_trans (invN_lt h1) hm) (invN_pos h1 h2 h) w ⟨fun w' => deedOf_yes 58 #[] a a m _ (by omega) (by omega) hm h1 h2 h2 w' (fun w'' _ => invDeed_yes a a m h1 h2 hm h w'') (enters_of Try.func58 (by kernel_rfl) rfl)⟩
end Go.Proofs.Ythdanjbgbbcafaa
