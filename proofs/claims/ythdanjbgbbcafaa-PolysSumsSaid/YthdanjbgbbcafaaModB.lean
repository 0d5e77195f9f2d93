/- deed.of, and mods.Add, Sub (printed by gen_modb.py). -/
import Derived.Test.YthdanjbgbbcafaaModA
namespace Go.Proofs.Ythdanjbgbbcafaa
open Go Go.RowKit

theorem cmp_le (a b : Nat) : cmpN a b ≤ 0 ↔ a ≤ b := by
  unfold cmpN
  split
  · omega
  · split <;> omega
theorem cmp_ge (a b : Nat) : 0 ≤ cmpN a b ↔ b ≤ a := by
  unfold cmpN
  split
  · omega
  · split <;> omega
def MayEnds (w : World) (r : Nat) (c : Int) (e : Ending) (w' : World) : Prop := e = .returned (.tuple #[.agg (num r), .int .i64 c]) ∧ Below w.heap.size w w'
structure DeedMem (w : World) (fv : Value) (a b m : Nat) (t87 t24 : TypeId) (wr : World) : Prop where
  below : Below w.heap.size w wr
  D : Blk wr w.heap.size t87 #[fv]
  A : Blk wr (w.heap.size + 1) t24 (num a)
  B : Blk wr (w.heap.size + 1 + 1) t24 (num b)
  M : Blk wr (w.heap.size + 1 + 1 + 1) t24 (num m)
  R : Blk wr (w.heap.size + 1 + 1 + 1 + 1) t24 (num 0)
theorem DeedMem.start (w : World) (fv : Value) (a b m : Nat) (t87 t24 : TypeId) (z : Array Value) (hz : z = num 0) : DeedMem w fv a b m t87 t24 (((((w.alloc (.cells #[fv] t87)).alloc (.cells (num a) t24)).alloc (.cells (num b) t24)).alloc (.cells (num m) t24)).alloc (.cells z t24)) := by
  subst hz
  refine ⟨(((((Below.refl _ _).alloc (Nat.le_refl _) _).alloc ?_ _).alloc ?_ _).alloc ?_ _).alloc ?_ _, ((((Blk.new w _ _).alloc _).alloc _).alloc _).alloc _, ?_, ?_, ?_, ?_⟩
  · simp
  · simp; omega
  · simp; omega
  · simp; omega
  · have h := (((Blk.new (w.alloc (.cells #[fv] t87)) t24 (num a)).alloc (.cells (num b) t24)).alloc (.cells (num m) t24)).alloc (.cells (num 0) t24)
    simp only [World.size_alloc] at h
    exact h
  · have h := ((Blk.new ((w.alloc (.cells #[fv] t87)).alloc (.cells (num a) t24)) t24 (num b)).alloc (.cells (num m) t24)).alloc (.cells (num 0) t24)
    simp only [World.size_alloc] at h
    exact h
  · have h := (Blk.new (((w.alloc (.cells #[fv] t87)).alloc (.cells (num a) t24)).alloc (.cells (num b) t24)) t24 (num m)).alloc (.cells (num 0) t24)
    simp only [World.size_alloc] at h
    exact h
  · have h := Blk.new ((((w.alloc (.cells #[fv] t87)).alloc (.cells (num a) t24)).alloc (.cells (num b) t24)).alloc (.cells (num m) t24)) t24 (num 0)
    simp only [World.size_alloc] at h
    exact h
theorem DeedMem.grow {w wr w' : World} {fv : Value} {a b m : Nat} {t87 t24 : TypeId} (h : DeedMem w fv a b m t87 t24 wr) (hb : Grows wr w') : DeedMem w fv a b m t87 t24 w' :=
  ⟨below_trans_grows h.below hb h.below.size, h.D.below hb h.D.lt, h.A.below hb h.A.lt, h.B.below hb h.B.lt, h.M.below hb h.M.lt, h.R.below hb h.R.lt⟩
theorem DeedMem.drew {w wr : World} {fv : Value} {a b m : Nat} {t87 t24 : TypeId} (h : DeedMem w fv a b m t87 t24 wr) : DeedMem w fv a b m t87 t24 wr.drew :=
  ⟨h.below.drew, h.D.drew, h.A.drew, h.B.drew, h.M.drew, h.R.drew⟩
theorem load_growsN {w : World} {g : Nat} {t : TypeId} {n : Nat} (B : Blk w g t (num n)) : ∀ w', Grows w w' → (Instr.loadAt 24 (.pointer (some ⟨g, 0, none⟩))).run Try.prog w' = .ok (.agg (num n)) w' :=
  fun _ h => load_num (B.below h B.lt)
set_option maxRecDepth 100000 in
set_option maxHeartbeats 4000000 in
theorem deedOf_no (fv : Value) (a b m : Nat) (ha : a < big) (hb : b < big) (hm : m < big) (h : mayB a b m = false) (w : World) :
    Calls Try.prog 55 #[.agg #[fv], .agg (num a), .agg (num b), .agg (num m)] w (MayEnds w 0 1) := by
  have hof : ∀ w, Calls Try.prog 33 #[.int .u64 1] w (NumEnds w 1) := fun w => lof_any 1 (by decide) w
  have hc1 := fun w => lcmp_any m 1 hm (by unfold big; decide) w
  have hc2 := fun w => lcmp_any a m ha hm w
  have hc3 := fun w => lcmp_any b m hb hm w
  obtain ⟨c1, e1⟩ : ∃ c : Int, c = cmpN m 1 := ⟨_, rfl⟩
  obtain ⟨c2, e2⟩ : ∃ c : Int, c = cmpN a m := ⟨_, rfl⟩
  obtain ⟨c3, e3⟩ : ∃ c : Int, c = cmpN b m := ⟨_, rfl⟩
  have d1 : c1 ≤ 0 ↔ m ≤ 1 := by rw [e1]; exact cmp_le m 1
  have d2 : 0 ≤ c2 ↔ m ≤ a := by rw [e2]; exact cmp_ge a m
  have d3 : 0 ≤ c3 ↔ m ≤ b := by rw [e3]; exact cmp_ge b m
  rw [← e1] at hc1
  rw [← e2] at hc2
  rw [← e3] at hc3
  have HOF := hide hof
  have HC1 := hide hc1
  have HC2 := hide hc2
  have HC3 := hide hc3
  clear hof hc1 hc2 hc3 e1 e2 e3
  have hcase : m ≤ 1 ∨ (1 < m ∧ m ≤ a) ∨ (1 < m ∧ a < m ∧ m ≤ b) := by
    unfold mayB at h
    by_cases h1 : 1 < m
    · by_cases h2 : a < m
      · by_cases h3 : b < m
        · simp [h1, h2, h3] at h
        · exact .inr (.inr ⟨h1, h2, by omega⟩)
      · exact .inr (.inl ⟨h1, by omega⟩)
    · exact .inl (by omega)
  clear h ha hb hm
  rcases hcase with h | ⟨h1, h2⟩ | ⟨h1, h2, h3⟩
  · have b1 : decide (c1 ≤ 0) = true := decide_eq_true (d1.2 h)
    clear d1 d2 d3 h
    go_enter Try.func55, Try.ntmps55
    go_upto_region 1 with fail
    have M := DeedMem.start w (fv) a b m 87 24 nought num_zero.symm
    change Code.wp _ _ _ _ (((((w.alloc (.cells #[fv] 87)).alloc (.cells (num a) 24)).alloc (.cells (num b) 24)).alloc (.cells (num m) 24)).alloc (.cells nought 24))
    generalize ((((w.alloc (.cells #[fv] 87)).alloc (.cells (num a) 24)).alloc (.cells (num b) 24)).alloc (.cells (num m) 24)).alloc (.cells nought 24) = w1 at *
    have HM := hide M
    clear M
    have la := load_growsN HM.out.A.drew
    have lb := load_growsN HM.out.B.drew
    have lm := load_growsN HM.out.M.drew
    refine wp_region_kinds 16 (by kernel_rfl) (by kernel_rfl) (fun F hF => ?_)
    repeat (first
      | refine kinds_move_is _ rfl (Or.inl rfl) rfl ?_
      | refine kinds_move_is _ rfl (Or.inr rfl) rfl ?_
      | refine kinds_load 7 24 rfl rfl rfl lm ?_
      | refine kinds_on rfl rfl rfl (kinds_load 7 24 rfl rfl rfl lm ?_)
      | refine kinds_on rfl rfl rfl (kinds_load 5 24 rfl rfl rfl la ?_)
      | refine kinds_on rfl rfl rfl (kinds_load 6 24 rfl rfl rfl lb ?_)
      | refine kinds_off rfl rfl rfl rfl ?_
      | refine kinds_off' rfl rfl rfl ?_
      | ((first | refine kinds_on rfl rfl rfl ?_ | skip)
         apply kinds_is rfl
         · intro ρ wv K hw hf hK
           first | obtain ⟨e0, e1, e2, e3, e4, e5, e6, -⟩ := hf | obtain ⟨e0, e1, e2, e3, e4, e5, -⟩ := hf | obtain ⟨e0, e1, e2, e3, e4, -⟩ := hf | obtain ⟨e0, e1, e2, e3, -⟩ := hf | obtain ⟨e0, e1, e2, -⟩ := hf | obtain ⟨e0, e1, -⟩ := hf | obtain ⟨e0, -⟩ := hf | clear hf
           (try change ρ _ = _ at e0)
           (try change ρ _ = _ at e1)
           (try change ρ _ = _ at e2)
           (try change ρ _ = _ at e3)
           unfold gives
           go_simp
           first
             | (change Calls _ _ _ _ _; (go_at_call 33; (with_reducible refine (HOF.out _).mono ?_); rintro e w' ⟨rfl, hb⟩; exact ⟨_, rfl, hK _ hb⟩))
             | (change Calls _ _ _ _ _; (go_at_call 75; (first | with_reducible refine (HC1.out _).mono ?_ | with_reducible refine (HC2.out _).mono ?_ | with_reducible refine (HC3.out _).mono ?_); rintro e w' ⟨rfl, hb⟩; exact ⟨_, rfl, hK _ hb⟩))
             | ((try go_ints); (try rw [if_pos (by omega)]); exact hK _ (Grows.refl _))))
    refine kinds_nil (hF _ rfl rfl (fun ww hg => ?_))
    clear hF F
    simp only [pushSlot, finish, Act.put, List.setIfInBounds_toArray, List.set_cons_succ, List.set_cons_zero]
    simp only [List.drop_succ_cons, List.drop_zero]
    have HM1 := hide (HM.out.drew.grow hg)
    clear hg la lb lm HM
    go_wp2_with (first | (refine wpList_store_row rfl 24 (.tmp 8) (.tmp 26) rfl (w.heap.size + 1 + 1 + 1 + 1) nought rfl rfl 24 _ HM1.out.R info4 rfl (word_one 0) ?_))
    have hS : Blk (ww.setRow (w.heap.size + 1 + 1 + 1 + 1) nought) (w.heap.size + 1 + 1 + 1 + 1) 24 (num 0) := by
      have h0 := HM1.out.R.setRow nought
      rw [num_zero]
      exact h0
    exact bodyPost_ret (results_num_tmp rfl rfl hS) rfl ⟨rfl, below_setRow HM1.out.below (by omega) _⟩
  · have b1 : decide (c1 ≤ 0) = false := decide_eq_false (fun h => by have := d1.1 h; omega)
    have b2 : decide (0 ≤ c2) = true := decide_eq_true (d2.2 h2)
    clear d1 d2 d3 h1 h2
    go_enter Try.func55, Try.ntmps55
    go_upto_region 1 with fail
    have M := DeedMem.start w (fv) a b m 87 24 nought num_zero.symm
    change Code.wp _ _ _ _ (((((w.alloc (.cells #[fv] 87)).alloc (.cells (num a) 24)).alloc (.cells (num b) 24)).alloc (.cells (num m) 24)).alloc (.cells nought 24))
    generalize ((((w.alloc (.cells #[fv] 87)).alloc (.cells (num a) 24)).alloc (.cells (num b) 24)).alloc (.cells (num m) 24)).alloc (.cells nought 24) = w1 at *
    have HM := hide M
    clear M
    have la := load_growsN HM.out.A.drew
    have lb := load_growsN HM.out.B.drew
    have lm := load_growsN HM.out.M.drew
    refine wp_region_kinds 16 (by kernel_rfl) (by kernel_rfl) (fun F hF => ?_)
    repeat (first
      | refine kinds_move_is _ rfl (Or.inl rfl) rfl ?_
      | refine kinds_move_is _ rfl (Or.inr rfl) rfl ?_
      | refine kinds_load 7 24 rfl rfl rfl lm ?_
      | refine kinds_on rfl rfl rfl (kinds_load 7 24 rfl rfl rfl lm ?_)
      | refine kinds_on rfl rfl rfl (kinds_load 5 24 rfl rfl rfl la ?_)
      | refine kinds_on rfl rfl rfl (kinds_load 6 24 rfl rfl rfl lb ?_)
      | refine kinds_off rfl rfl rfl rfl ?_
      | refine kinds_off' rfl rfl rfl ?_
      | ((first | refine kinds_on rfl rfl rfl ?_ | skip)
         apply kinds_is rfl
         · intro ρ wv K hw hf hK
           first | obtain ⟨e0, e1, e2, e3, e4, e5, e6, -⟩ := hf | obtain ⟨e0, e1, e2, e3, e4, e5, -⟩ := hf | obtain ⟨e0, e1, e2, e3, e4, -⟩ := hf | obtain ⟨e0, e1, e2, e3, -⟩ := hf | obtain ⟨e0, e1, e2, -⟩ := hf | obtain ⟨e0, e1, -⟩ := hf | obtain ⟨e0, -⟩ := hf | clear hf
           (try change ρ _ = _ at e0)
           (try change ρ _ = _ at e1)
           (try change ρ _ = _ at e2)
           (try change ρ _ = _ at e3)
           unfold gives
           go_simp
           first
             | (change Calls _ _ _ _ _; (go_at_call 33; (with_reducible refine (HOF.out _).mono ?_); rintro e w' ⟨rfl, hb⟩; exact ⟨_, rfl, hK _ hb⟩))
             | (change Calls _ _ _ _ _; (go_at_call 75; (first | with_reducible refine (HC1.out _).mono ?_ | with_reducible refine (HC2.out _).mono ?_ | with_reducible refine (HC3.out _).mono ?_); rintro e w' ⟨rfl, hb⟩; exact ⟨_, rfl, hK _ hb⟩))
             | ((try go_ints); (try rw [if_pos (by omega)]); exact hK _ (Grows.refl _))))
    refine kinds_nil (hF _ rfl rfl (fun ww hg => ?_))
    clear hF F
    simp only [pushSlot, finish, Act.put, List.setIfInBounds_toArray, List.set_cons_succ, List.set_cons_zero]
    simp only [List.drop_succ_cons, List.drop_zero]
    have HM1 := hide (HM.out.drew.grow hg)
    clear hg la lb lm HM
    go_wp2_with (first | (refine wpList_store_row rfl 24 (.tmp 8) (.tmp 26) rfl (w.heap.size + 1 + 1 + 1 + 1) nought rfl rfl 24 _ HM1.out.R info4 rfl (word_one 0) ?_))
    have hS : Blk (ww.setRow (w.heap.size + 1 + 1 + 1 + 1) nought) (w.heap.size + 1 + 1 + 1 + 1) 24 (num 0) := by
      have h0 := HM1.out.R.setRow nought
      rw [num_zero]
      exact h0
    exact bodyPost_ret (results_num_tmp rfl rfl hS) rfl ⟨rfl, below_setRow HM1.out.below (by omega) _⟩
  · have b1 : decide (c1 ≤ 0) = false := decide_eq_false (fun h => by have := d1.1 h; omega)
    have b2 : decide (0 ≤ c2) = false := decide_eq_false (fun h => by have := d2.1 h; omega)
    have b3 : decide (0 ≤ c3) = true := decide_eq_true (d3.2 h3)
    clear d1 d2 d3 h1 h2 h3
    go_enter Try.func55, Try.ntmps55
    go_upto_region 1 with fail
    have M := DeedMem.start w (fv) a b m 87 24 nought num_zero.symm
    change Code.wp _ _ _ _ (((((w.alloc (.cells #[fv] 87)).alloc (.cells (num a) 24)).alloc (.cells (num b) 24)).alloc (.cells (num m) 24)).alloc (.cells nought 24))
    generalize ((((w.alloc (.cells #[fv] 87)).alloc (.cells (num a) 24)).alloc (.cells (num b) 24)).alloc (.cells (num m) 24)).alloc (.cells nought 24) = w1 at *
    have HM := hide M
    clear M
    have la := load_growsN HM.out.A.drew
    have lb := load_growsN HM.out.B.drew
    have lm := load_growsN HM.out.M.drew
    refine wp_region_kinds 16 (by kernel_rfl) (by kernel_rfl) (fun F hF => ?_)
    repeat (first
      | refine kinds_move_is _ rfl (Or.inl rfl) rfl ?_
      | refine kinds_move_is _ rfl (Or.inr rfl) rfl ?_
      | refine kinds_load 7 24 rfl rfl rfl lm ?_
      | refine kinds_on rfl rfl rfl (kinds_load 7 24 rfl rfl rfl lm ?_)
      | refine kinds_on rfl rfl rfl (kinds_load 5 24 rfl rfl rfl la ?_)
      | refine kinds_on rfl rfl rfl (kinds_load 6 24 rfl rfl rfl lb ?_)
      | refine kinds_off rfl rfl rfl rfl ?_
      | refine kinds_off' rfl rfl rfl ?_
      | ((first | refine kinds_on rfl rfl rfl ?_ | skip)
         apply kinds_is rfl
         · intro ρ wv K hw hf hK
           first | obtain ⟨e0, e1, e2, e3, e4, e5, e6, -⟩ := hf | obtain ⟨e0, e1, e2, e3, e4, e5, -⟩ := hf | obtain ⟨e0, e1, e2, e3, e4, -⟩ := hf | obtain ⟨e0, e1, e2, e3, -⟩ := hf | obtain ⟨e0, e1, e2, -⟩ := hf | obtain ⟨e0, e1, -⟩ := hf | obtain ⟨e0, -⟩ := hf | clear hf
           (try change ρ _ = _ at e0)
           (try change ρ _ = _ at e1)
           (try change ρ _ = _ at e2)
           (try change ρ _ = _ at e3)
           unfold gives
           go_simp
           first
             | (change Calls _ _ _ _ _; (go_at_call 33; (with_reducible refine (HOF.out _).mono ?_); rintro e w' ⟨rfl, hb⟩; exact ⟨_, rfl, hK _ hb⟩))
             | (change Calls _ _ _ _ _; (go_at_call 75; (first | with_reducible refine (HC1.out _).mono ?_ | with_reducible refine (HC2.out _).mono ?_ | with_reducible refine (HC3.out _).mono ?_); rintro e w' ⟨rfl, hb⟩; exact ⟨_, rfl, hK _ hb⟩))
             | ((try go_ints); (try rw [if_pos (by omega)]); exact hK _ (Grows.refl _))))
    refine kinds_nil (hF _ rfl rfl (fun ww hg => ?_))
    clear hF F
    simp only [pushSlot, finish, Act.put, List.setIfInBounds_toArray, List.set_cons_succ, List.set_cons_zero]
    simp only [List.drop_succ_cons, List.drop_zero]
    have HM1 := hide (HM.out.drew.grow hg)
    clear hg la lb lm HM
    go_wp2_with (first | (refine wpList_store_row rfl 24 (.tmp 8) (.tmp 26) rfl (w.heap.size + 1 + 1 + 1 + 1) nought rfl rfl 24 _ HM1.out.R info4 rfl (word_one 0) ?_))
    have hS : Blk (ww.setRow (w.heap.size + 1 + 1 + 1 + 1) nought) (w.heap.size + 1 + 1 + 1 + 1) 24 (num 0) := by
      have h0 := HM1.out.R.setRow nought
      rw [num_zero]
      exact h0
    exact bodyPost_ret (results_num_tmp rfl rfl hS) rfl ⟨rfl, below_setRow HM1.out.below (by omega) _⟩
set_option maxRecDepth 100000 in
set_option maxHeartbeats 4000000 in
theorem deedOf_yes (F : FuncId) (caps : Array Value) (a b m r : Nat) (ha : a < big) (hb : b < big) (hm : m < big) (h1 : 1 < m) (h2 : a < m) (h3 : b < m) (w : World)
    (hf : ∀ w', Below w.heap.size w w' → Calls Try.prog F (#[.agg (num a), .agg (num b), .agg (num m)] ++ caps) w' (NumEnds w' r)) (he : ∀ args w, (callFunc F args).run Try.prog w = .ok (.enter F args) w) :
    Calls Try.prog 55 #[.agg #[.func (.func F) #[] caps], .agg (num a), .agg (num b), .agg (num m)] w (MayEnds w r 0) := by
  have hof : ∀ w, Calls Try.prog 33 #[.int .u64 1] w (NumEnds w 1) := fun w => lof_any 1 (by decide) w
  have hc1 := fun w => lcmp_any m 1 hm (by unfold big; decide) w
  have hc2 := fun w => lcmp_any a m ha hm w
  have hc3 := fun w => lcmp_any b m hb hm w
  obtain ⟨c1, e1⟩ : ∃ c : Int, c = cmpN m 1 := ⟨_, rfl⟩
  obtain ⟨c2, e2⟩ : ∃ c : Int, c = cmpN a m := ⟨_, rfl⟩
  obtain ⟨c3, e3⟩ : ∃ c : Int, c = cmpN b m := ⟨_, rfl⟩
  have d1 : c1 ≤ 0 ↔ m ≤ 1 := by rw [e1]; exact cmp_le m 1
  have d2 : 0 ≤ c2 ↔ m ≤ a := by rw [e2]; exact cmp_ge a m
  have d3 : 0 ≤ c3 ↔ m ≤ b := by rw [e3]; exact cmp_ge b m
  rw [← e1] at hc1
  rw [← e2] at hc2
  rw [← e3] at hc3
  have HOF := hide hof
  have HC1 := hide hc1
  have HC2 := hide hc2
  have HC3 := hide hc3
  clear hof hc1 hc2 hc3 e1 e2 e3
  have b1 : decide (c1 ≤ 0) = false := decide_eq_false (fun h => by have := d1.1 h; omega)
  have b2 : decide (0 ≤ c2) = false := decide_eq_false (fun h => by have := d2.1 h; omega)
  have b3 : decide (0 ≤ c3) = false := decide_eq_false (fun h => by have := d3.1 h; omega)
  have HF := hide hf
  have HE := hide he
  clear d1 d2 d3 h1 h2 h3 ha hb hm hf he
  go_enter Try.func55, Try.ntmps55
  go_upto_region 1 with fail
  have M := DeedMem.start w (.func (.func F) #[] caps) a b m 87 24 nought num_zero.symm
  change Code.wp _ _ _ _ (((((w.alloc (.cells #[.func (.func F) #[] caps] 87)).alloc (.cells (num a) 24)).alloc (.cells (num b) 24)).alloc (.cells (num m) 24)).alloc (.cells nought 24))
  generalize ((((w.alloc (.cells #[.func (.func F) #[] caps] 87)).alloc (.cells (num a) 24)).alloc (.cells (num b) 24)).alloc (.cells (num m) 24)).alloc (.cells nought 24) = w1 at *
  have HM := hide M
  clear M
  have la := load_growsN HM.out.A.drew
  have lb := load_growsN HM.out.B.drew
  have lm := load_growsN HM.out.M.drew
  refine wp_region_kinds 16 (by kernel_rfl) (by kernel_rfl) (fun F hF => ?_)
  repeat (first
    | refine kinds_move_is _ rfl (Or.inl rfl) rfl ?_
    | refine kinds_move_is _ rfl (Or.inr rfl) rfl ?_
    | refine kinds_load 7 24 rfl rfl rfl lm ?_
    | refine kinds_on rfl rfl rfl (kinds_load 7 24 rfl rfl rfl lm ?_)
    | refine kinds_on rfl rfl rfl (kinds_load 5 24 rfl rfl rfl la ?_)
    | refine kinds_on rfl rfl rfl (kinds_load 6 24 rfl rfl rfl lb ?_)
    | refine kinds_off rfl rfl rfl rfl ?_
    | refine kinds_off' rfl rfl rfl ?_
    | ((first | refine kinds_on rfl rfl rfl ?_ | skip)
       apply kinds_is rfl
       · intro ρ wv K hw hf hK
         first | obtain ⟨e0, e1, e2, e3, e4, e5, e6, -⟩ := hf | obtain ⟨e0, e1, e2, e3, e4, e5, -⟩ := hf | obtain ⟨e0, e1, e2, e3, e4, -⟩ := hf | obtain ⟨e0, e1, e2, e3, -⟩ := hf | obtain ⟨e0, e1, e2, -⟩ := hf | obtain ⟨e0, e1, -⟩ := hf | obtain ⟨e0, -⟩ := hf | clear hf
         (try change ρ _ = _ at e0)
         (try change ρ _ = _ at e1)
         (try change ρ _ = _ at e2)
         (try change ρ _ = _ at e3)
         unfold gives
         go_simp
         first
           | (change Calls _ _ _ _ _; (go_at_call 33; (with_reducible refine (HOF.out _).mono ?_); rintro e w' ⟨rfl, hb⟩; exact ⟨_, rfl, hK _ hb⟩))
           | (change Calls _ _ _ _ _; (go_at_call 75; (first | with_reducible refine (HC1.out _).mono ?_ | with_reducible refine (HC2.out _).mono ?_ | with_reducible refine (HC3.out _).mono ?_); rintro e w' ⟨rfl, hb⟩; exact ⟨_, rfl, hK _ hb⟩))
           | ((try go_ints); (try rw [if_pos (by omega)]); exact hK _ (Grows.refl _))))
  refine kinds_nil (hF _ rfl rfl (fun ww hg => ?_))
  clear hF F
  simp only [pushSlot, finish, Act.put, List.setIfInBounds_toArray, List.set_cons_succ, List.set_cons_zero]
  simp only [List.drop_succ_cons, List.drop_zero]
  have HM1 := hide (HM.out.drew.grow hg)
  clear hg la lb lm HM
  have hcell : ww.cell? ⟨w.heap.size, 0, none⟩ = some (Value.func (.func F) #[] caps) := HM1.out.D.cell 0
  have he := HE.out
  go_wp2_with (first | (refine wpList_load_row rfl 24 _ rfl (w.heap.size + 1) rfl 24 (num a) (0, 0) _ HM1.out.A Try.underlying24 rfl info4 ?_) | (refine wpList_load_row rfl 24 _ rfl (w.heap.size + 1 + 1) rfl 24 (num b) (0, 0) _ HM1.out.B Try.underlying24 rfl info4 ?_) | (refine wpList_load_row rfl 24 _ rfl (w.heap.size + 1 + 1 + 1) rfl 24 (num m) (0, 0) _ HM1.out.M Try.underlying24 rfl info4 ?_) | fail)
  with_reducible refine (HF.out _ HM1.out.below).mono ?_
  rintro e w3 ⟨rfl, L⟩
  have HM2 := hide (HM1.out.grow L)
  clear L HF hcell he HE HOF HC1 HC2 HC3
  go_wp2_with (first | (refine wpList_store_row rfl 24 (.tmp 8) (.tmp 32) rfl (w.heap.size + 1 + 1 + 1 + 1) (num r) rfl rfl 24 _ (HM2.out.R) info4 rfl (num_one _) ?_))
  have hS := HM2.out.R.setRow (num r)
  exact bodyPost_ret (results_num_tmp rfl rfl hS) rfl ⟨rfl, below_setRow HM2.out.below (by omega) _⟩
set_option maxRecDepth 100000 in
set_option maxHeartbeats 4000000 in
theorem madd_core (a b m r : Nat) (c : Int) (w : World) (HD : Keep (∀ w', Calls Try.prog 55 #[.agg #[.func (.func 52) #[] #[]], .agg (num a), .agg (num b), .agg (num m)] w' (MayEnds w' r c))) :
    Calls Try.prog 35 #[.agg (num a), .agg (num b), .agg (num m)] w (MayEnds w r c) := by
  go_enter Try.func35, Try.ntmps35
  go_upto_region 1 with fail
  have M := ThreeMem.start w a b m 24 nought num_zero.symm
  change Code.wp _ _ _ _ ((((w.alloc (.cells (num a) 24)).alloc (.cells (num b) 24)).alloc (.cells (num m) 24)).alloc (.cells nought 24))
  generalize (((w.alloc (.cells (num a) 24)).alloc (.cells (num b) 24)).alloc (.cells (num m) 24)).alloc (.cells nought 24) = w1 at *
  have HM := hide M
  clear M
  go_wp2_with (first | (refine wpList_load_row rfl 24 _ rfl (w.heap.size) rfl 24 (num a) (0, 0) _ HM.out.A Try.underlying24 rfl info4 ?_) | (refine wpList_load_row rfl 24 _ rfl (w.heap.size + 1) rfl 24 (num b) (0, 0) _ HM.out.B Try.underlying24 rfl info4 ?_) | (refine wpList_load_row rfl 24 _ rfl (w.heap.size + 1 + 1) rfl 24 (num m) (0, 0) _ HM.out.M Try.underlying24 rfl info4 ?_) | fail)
  with_reducible refine (HD.out _).mono ?_
  rintro e w2 ⟨rfl, L⟩
  have HM2 := hide (HM.out.grow L)
  clear L HM HD
  go_wp2_with (first | (refine wpList_store_row rfl 24 (.tmp 6) (.tmp 13) rfl (w.heap.size + 1 + 1 + 1) (num r) rfl rfl 24 _ (HM2.out.R) info4 rfl (num_one _) ?_))
  have hS := HM2.out.R.setRow (num r)
  exact bodyPost_ret (results_num_tmp rfl rfl hS) rfl ⟨rfl, below_setRow HM2.out.below (by omega) _⟩
theorem madd_yes (a b m : Nat) (hm : m < big) (h1 : 1 < m) (h2 : a < m) (h3 : b < m) (w : World) : Calls Try.prog 35 #[.agg (num a), .agg (num b), .agg (num m)] w (MayEnds w ((a + b) % m) 0) :=
  madd_core a b m _ _ w ⟨fun w' => deedOf_yes 52 #[] a b m _ (by omega) (by omega) hm h1 h2 h3 w' (fun w'' _ => addDeed_any a b m h2 h3 hm w'') (enters_of Try.func52 (by kernel_rfl) rfl)⟩
theorem madd_no (a b m : Nat) (ha : a < big) (hb : b < big) (hm : m < big) (h : mayB a b m = false) (w : World) : Calls Try.prog 35 #[.agg (num a), .agg (num b), .agg (num m)] w (MayEnds w 0 1) :=
  madd_core a b m _ _ w ⟨fun w' => deedOf_no _ a b m ha hb hm h w'⟩
set_option maxRecDepth 100000 in
set_option maxHeartbeats 4000000 in
theorem msub_core (a b m r : Nat) (c : Int) (w : World) (HD : Keep (∀ w', Calls Try.prog 55 #[.agg #[.func (.func 56) #[] #[]], .agg (num a), .agg (num b), .agg (num m)] w' (MayEnds w' r c))) :
    Calls Try.prog 37 #[.agg (num a), .agg (num b), .agg (num m)] w (MayEnds w r c) := by
  go_enter Try.func37, Try.ntmps37
  go_upto_region 1 with fail
  have M := ThreeMem.start w a b m 24 nought num_zero.symm
  change Code.wp _ _ _ _ ((((w.alloc (.cells (num a) 24)).alloc (.cells (num b) 24)).alloc (.cells (num m) 24)).alloc (.cells nought 24))
  generalize (((w.alloc (.cells (num a) 24)).alloc (.cells (num b) 24)).alloc (.cells (num m) 24)).alloc (.cells nought 24) = w1 at *
  have HM := hide M
  clear M
  go_wp2_with (first | (refine wpList_load_row rfl 24 _ rfl (w.heap.size) rfl 24 (num a) (0, 0) _ HM.out.A Try.underlying24 rfl info4 ?_) | (refine wpList_load_row rfl 24 _ rfl (w.heap.size + 1) rfl 24 (num b) (0, 0) _ HM.out.B Try.underlying24 rfl info4 ?_) | (refine wpList_load_row rfl 24 _ rfl (w.heap.size + 1 + 1) rfl 24 (num m) (0, 0) _ HM.out.M Try.underlying24 rfl info4 ?_) | fail)
  with_reducible refine (HD.out _).mono ?_
  rintro e w2 ⟨rfl, L⟩
  have HM2 := hide (HM.out.grow L)
  clear L HM HD
  go_wp2_with (first | (refine wpList_store_row rfl 24 (.tmp 6) (.tmp 13) rfl (w.heap.size + 1 + 1 + 1) (num r) rfl rfl 24 _ (HM2.out.R) info4 rfl (num_one _) ?_))
  have hS := HM2.out.R.setRow (num r)
  exact bodyPost_ret (results_num_tmp rfl rfl hS) rfl ⟨rfl, below_setRow HM2.out.below (by omega) _⟩
theorem msub_yes (a b m : Nat) (hm : m < big) (h1 : 1 < m) (h2 : a < m) (h3 : b < m) (w : World) : Calls Try.prog 37 #[.agg (num a), .agg (num b), .agg (num m)] w (MayEnds w ((a + m - b) % m) 0) :=
  msub_core a b m _ _ w ⟨fun w' => deedOf_yes 56 #[] a b m _ (by omega) (by omega) hm h1 h2 h3 w' (fun w'' _ => subDeed_any a b m h2 h3 hm w'') (enters_of Try.func56 (by kernel_rfl) rfl)⟩
theorem msub_no (a b m : Nat) (ha : a < big) (hb : b < big) (hm : m < big) (h : mayB a b m = false) (w : World) : Calls Try.prog 37 #[.agg (num a), .agg (num b), .agg (num m)] w (MayEnds w 0 1) :=
  msub_core a b m _ _ w ⟨fun w' => deedOf_no _ a b m ha hb hm h w'⟩
end Go.Proofs.Ythdanjbgbbcafaa
