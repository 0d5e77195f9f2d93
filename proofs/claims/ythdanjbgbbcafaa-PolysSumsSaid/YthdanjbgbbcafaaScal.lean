/- scalars: Add, Sub, Mul, Inv (printed by gen_scal.py). -/
import Derived.Test.YthdanjbgbbcafaaInvB
namespace Go.Proofs.Ythdanjbgbbcafaa
open Go Go.RowKit

/-- The cells of a group, whose Q is q. -/
structure GroupRow (gr : Array Value) (q : Nat) : Prop where
  size : gr.size = 16
  one : gr.all (·.oneCell') = true
  at_ : ∀ (j : Nat) (v : Value), (num q).toList[j]? = some v → gr[4 + j]? = some v
  lt : q < big
theorem GroupRow.range {w : World} {g : Nat} {t : TypeId} {gr : Array Value} {q : Nat} (h : GroupRow gr q) (B : Blk w g t gr) : w.rangeAt g 4 (num q).toList :=
  fun j v hv => by rw [B.cell]; exact h.at_ j v hv
structure ScalMem (w : World) (gr : Array Value) (a b : Nat) (t26 t24 : TypeId) (r : Nat) (wr : World) : Prop where
  below : Below w.heap.size w wr
  G : Blk wr w.heap.size t26 gr
  A : Blk wr (w.heap.size + 1) t24 (num a)
  B : Blk wr (w.heap.size + 1 + 1) t24 (num b)
  R : Blk wr (w.heap.size + 1 + 1 + 1) t24 (num r)
theorem ScalMem.start (w : World) (gr : Array Value) (a b : Nat) (t26 t24 : TypeId) (z : Array Value) (hz : z = num 0) : ScalMem w gr a b t26 t24 0 ((((w.alloc (.cells gr t26)).alloc (.cells (num a) t24)).alloc (.cells (num b) t24)).alloc (.cells z t24)) := by
  subst hz
  refine ⟨((((Below.refl _ _).alloc (Nat.le_refl _) _).alloc ?_ _).alloc ?_ _).alloc ?_ _, (((Blk.new w _ _).alloc _).alloc _).alloc _, ?_, ?_, ?_⟩
  · simp
  · simp; omega
  · simp; omega
  · have h := ((Blk.new (w.alloc (.cells gr t26)) t24 (num a)).alloc (.cells (num b) t24)).alloc (.cells (num 0) t24)
    simp only [World.size_alloc] at h
    exact h
  · have h := (Blk.new ((w.alloc (.cells gr t26)).alloc (.cells (num a) t24)) t24 (num b)).alloc (.cells (num 0) t24)
    simp only [World.size_alloc] at h
    exact h
  · have h := Blk.new (((w.alloc (.cells gr t26)).alloc (.cells (num a) t24)).alloc (.cells (num b) t24)) t24 (num 0)
    simp only [World.size_alloc] at h
    exact h
theorem ScalMem.grow {w wr w' : World} {gr : Array Value} {a b : Nat} {t26 t24 : TypeId} {r : Nat} (h : ScalMem w gr a b t26 t24 r wr) (hb : Grows wr w') : ScalMem w gr a b t26 t24 r w' :=
  ⟨below_trans_grows h.below hb h.below.size, h.G.below hb h.G.lt, h.A.below hb h.A.lt, h.B.below hb h.B.lt, h.R.below hb h.R.lt⟩
structure ScaiMem (w : World) (gr : Array Value) (a : Nat) (t26 t24 : TypeId) (r : Nat) (wr : World) : Prop where
  below : Below w.heap.size w wr
  G : Blk wr w.heap.size t26 gr
  A : Blk wr (w.heap.size + 1) t24 (num a)
  R : Blk wr (w.heap.size + 1 + 1) t24 (num r)
theorem ScaiMem.start (w : World) (gr : Array Value) (a : Nat) (t26 t24 : TypeId) (z : Array Value) (hz : z = num 0) : ScaiMem w gr a t26 t24 0 (((w.alloc (.cells gr t26)).alloc (.cells (num a) t24)).alloc (.cells z t24)) := by
  subst hz
  refine ⟨(((Below.refl _ _).alloc (Nat.le_refl _) _).alloc ?_ _).alloc ?_ _, ((Blk.new w _ _).alloc _).alloc _, ?_, ?_⟩
  · simp
  · simp; omega
  · have h := (Blk.new (w.alloc (.cells gr t26)) t24 (num a)).alloc (.cells (num 0) t24)
    simp only [World.size_alloc] at h
    exact h
  · have h := Blk.new ((w.alloc (.cells gr t26)).alloc (.cells (num a) t24)) t24 (num 0)
    simp only [World.size_alloc] at h
    exact h
theorem ScaiMem.grow {w wr w' : World} {gr : Array Value} {a : Nat} {t26 t24 : TypeId} {r : Nat} (h : ScaiMem w gr a t26 t24 r wr) (hb : Grows wr w') : ScaiMem w gr a t26 t24 r w' :=
  ⟨below_trans_grows h.below hb h.below.size, h.G.below hb h.G.lt, h.A.below hb h.A.lt, h.R.below hb h.R.lt⟩
set_option maxRecDepth 100000 in
set_option maxHeartbeats 4000000 in
theorem sadd_core (gr : Array Value) (q a b r : Nat) (c : Int) (hgr : GroupRow gr q) (w : World) (HD : Keep (∀ w', Calls Try.prog 35 #[.agg (num a), .agg (num b), .agg (num q)] w' (MayEnds w' r c))) :
    Calls Try.prog 15 #[.agg gr, .agg (num a), .agg (num b)] w (MayEnds w r c) := by
  go_enter Try.func15, Try.ntmps15
  go_upto_region 1 with fail
  have M := ScalMem.start w gr a b 26 24 nought num_zero.symm
  change Code.wp _ _ _ _ ((((w.alloc (.cells gr 26)).alloc (.cells (num a) 24)).alloc (.cells (num b) 24)).alloc (.cells nought 24))
  generalize (((w.alloc (.cells gr 26)).alloc (.cells (num a) 24)).alloc (.cells (num b) 24)).alloc (.cells nought 24) = w1 at *
  have HM := hide M
  clear M
  go_wp2_with (first | (refine wpList_load_row rfl 24 _ rfl (w.heap.size + 1) rfl 24 (num a) (0, 0) _ HM.out.A Try.underlying24 rfl info4 ?_) | (refine wpList_load_row rfl 24 _ rfl (w.heap.size + 1 + 1) rfl 24 (num b) (0, 0) _ HM.out.B Try.underlying24 rfl info4 ?_) | (refine wpList_load_mid rfl 24 _ rfl (w.heap.size) 4 rfl (num q).toList _ (hgr.range HM.out.G) Try.underlying24 rfl info4 ?_) | fail)
  with_reducible refine (HD.out _).mono ?_
  rintro e w2 ⟨rfl, L⟩
  have HM2 := hide (HM.out.grow L)
  clear L HM HD
  go_wp2_with (first | (refine wpList_store_row rfl 24 (.tmp 6) (.tmp 13) rfl (w.heap.size + 1 + 1 + 1) (num r) rfl rfl 24 _ (HM2.out.R) info4 rfl (num_one _) ?_))
  have hS := HM2.out.R.setRow (num r)
  exact bodyPost_ret (results_num_tmp rfl rfl hS) rfl ⟨rfl, below_setRow HM2.out.below (by omega) _⟩
set_option maxRecDepth 100000 in
set_option maxHeartbeats 4000000 in
theorem ssub_core (gr : Array Value) (q a b r : Nat) (c : Int) (hgr : GroupRow gr q) (w : World) (HD : Keep (∀ w', Calls Try.prog 37 #[.agg (num a), .agg (num b), .agg (num q)] w' (MayEnds w' r c))) :
    Calls Try.prog 72 #[.agg gr, .agg (num a), .agg (num b)] w (MayEnds w r c) := by
  go_enter Try.func72, Try.ntmps72
  go_upto_region 1 with fail
  have M := ScalMem.start w gr a b 26 24 nought num_zero.symm
  change Code.wp _ _ _ _ ((((w.alloc (.cells gr 26)).alloc (.cells (num a) 24)).alloc (.cells (num b) 24)).alloc (.cells nought 24))
  generalize (((w.alloc (.cells gr 26)).alloc (.cells (num a) 24)).alloc (.cells (num b) 24)).alloc (.cells nought 24) = w1 at *
  have HM := hide M
  clear M
  go_wp2_with (first | (refine wpList_load_row rfl 24 _ rfl (w.heap.size + 1) rfl 24 (num a) (0, 0) _ HM.out.A Try.underlying24 rfl info4 ?_) | (refine wpList_load_row rfl 24 _ rfl (w.heap.size + 1 + 1) rfl 24 (num b) (0, 0) _ HM.out.B Try.underlying24 rfl info4 ?_) | (refine wpList_load_mid rfl 24 _ rfl (w.heap.size) 4 rfl (num q).toList _ (hgr.range HM.out.G) Try.underlying24 rfl info4 ?_) | fail)
  with_reducible refine (HD.out _).mono ?_
  rintro e w2 ⟨rfl, L⟩
  have HM2 := hide (HM.out.grow L)
  clear L HM HD
  go_wp2_with (first | (refine wpList_store_row rfl 24 (.tmp 6) (.tmp 13) rfl (w.heap.size + 1 + 1 + 1) (num r) rfl rfl 24 _ (HM2.out.R) info4 rfl (num_one _) ?_))
  have hS := HM2.out.R.setRow (num r)
  exact bodyPost_ret (results_num_tmp rfl rfl hS) rfl ⟨rfl, below_setRow HM2.out.below (by omega) _⟩
set_option maxRecDepth 100000 in
set_option maxHeartbeats 4000000 in
theorem smul_core (gr : Array Value) (q a b r : Nat) (c : Int) (hgr : GroupRow gr q) (w : World) (HD : Keep (∀ w', Calls Try.prog 38 #[.agg (num a), .agg (num b), .agg (num q)] w' (MayEnds w' r c))) :
    Calls Try.prog 16 #[.agg gr, .agg (num a), .agg (num b)] w (MayEnds w r c) := by
  go_enter Try.func16, Try.ntmps16
  go_upto_region 1 with fail
  have M := ScalMem.start w gr a b 26 24 nought num_zero.symm
  change Code.wp _ _ _ _ ((((w.alloc (.cells gr 26)).alloc (.cells (num a) 24)).alloc (.cells (num b) 24)).alloc (.cells nought 24))
  generalize (((w.alloc (.cells gr 26)).alloc (.cells (num a) 24)).alloc (.cells (num b) 24)).alloc (.cells nought 24) = w1 at *
  have HM := hide M
  clear M
  go_wp2_with (first | (refine wpList_load_row rfl 24 _ rfl (w.heap.size + 1) rfl 24 (num a) (0, 0) _ HM.out.A Try.underlying24 rfl info4 ?_) | (refine wpList_load_row rfl 24 _ rfl (w.heap.size + 1 + 1) rfl 24 (num b) (0, 0) _ HM.out.B Try.underlying24 rfl info4 ?_) | (refine wpList_load_mid rfl 24 _ rfl (w.heap.size) 4 rfl (num q).toList _ (hgr.range HM.out.G) Try.underlying24 rfl info4 ?_) | fail)
  with_reducible refine (HD.out _).mono ?_
  rintro e w2 ⟨rfl, L⟩
  have HM2 := hide (HM.out.grow L)
  clear L HM HD
  go_wp2_with (first | (refine wpList_store_row rfl 24 (.tmp 6) (.tmp 13) rfl (w.heap.size + 1 + 1 + 1) (num r) rfl rfl 24 _ (HM2.out.R) info4 rfl (num_one _) ?_))
  have hS := HM2.out.R.setRow (num r)
  exact bodyPost_ret (results_num_tmp rfl rfl hS) rfl ⟨rfl, below_setRow HM2.out.below (by omega) _⟩
set_option maxRecDepth 100000 in
set_option maxHeartbeats 4000000 in
theorem sinv_core (gr : Array Value) (q a r : Nat) (c : Int) (hgr : GroupRow gr q) (w : World) (HD : Keep (∀ w', Calls Try.prog 41 #[.agg (num a), .agg (num q)] w' (MayEnds w' r c))) :
    Calls Try.prog 18 #[.agg gr, .agg (num a)] w (MayEnds w r c) := by
  go_enter Try.func18, Try.ntmps18
  go_upto_region 1 with fail
  have M := ScaiMem.start w gr a 26 24 nought num_zero.symm
  change Code.wp _ _ _ _ (((w.alloc (.cells gr 26)).alloc (.cells (num a) 24)).alloc (.cells nought 24))
  generalize ((w.alloc (.cells gr 26)).alloc (.cells (num a) 24)).alloc (.cells nought 24) = w1 at *
  have HM := hide M
  clear M
  go_wp2_with (first | (refine wpList_load_row rfl 24 _ rfl (w.heap.size + 1) rfl 24 (num a) (0, 0) _ HM.out.A Try.underlying24 rfl info4 ?_) | (refine wpList_load_mid rfl 24 _ rfl (w.heap.size) 4 rfl (num q).toList _ (hgr.range HM.out.G) Try.underlying24 rfl info4 ?_) | fail)
  with_reducible refine (HD.out _).mono ?_
  rintro e w2 ⟨rfl, L⟩
  have HM2 := hide (HM.out.grow L)
  clear L HM HD
  go_wp2_with (first | (refine wpList_store_row rfl 24 (.tmp 4) (.tmp 10) rfl (w.heap.size + 1 + 1) (num r) rfl rfl 24 _ (HM2.out.R) info4 rfl (num_one _) ?_))
  have hS := HM2.out.R.setRow (num r)
  exact bodyPost_ret (results_num_tmp rfl rfl hS) rfl ⟨rfl, below_setRow HM2.out.below (by omega) _⟩
/-- What goes wrong where a number is none. -/
def mayE (a b q : Nat) : Int := if mayB a b q = true then 0 else 1
def addV (q a b : Nat) : Nat := if mayB a b q = true then (a + b) % q else 0
def subV (q a b : Nat) : Nat := if mayB a b q = true then (a + q - b) % q else 0
def mulV (q a b : Nat) : Nat := if mayB a b q = true then a * b % q else 0
noncomputable def invV (q a : Nat) : Nat := if mayB a a q = true then (if Nat.gcd a q = 1 then invN a q else 0) else 0
def invE (q a : Nat) : Int := if mayB a a q = true then (if Nat.gcd a q = 1 then 0 else 7) else 1
theorem mayB_spec {a b q : Nat} : mayB a b q = true ↔ 1 < q ∧ a < q ∧ b < q := by
  unfold mayB
  simp [Bool.and_eq_true, and_assoc]
theorem mayB_false {a b q : Nat} (h : ¬ mayB a b q = true) : mayB a b q = false := by simpa using h
theorem sadd_any (gr : Array Value) (q a b : Nat) (hgr : GroupRow gr q) (ha : a < big) (hb : b < big) (w : World) : Calls Try.prog 15 #[.agg gr, .agg (num a), .agg (num b)] w (MayEnds w (addV q a b) (mayE a b q)) := by
  unfold addV mayE
  by_cases h : mayB a b q = true
  · obtain ⟨h1, h2, h3⟩ := mayB_spec.1 h
    rw [if_pos h, if_pos h]
    exact sadd_core gr q a b _ _ hgr w ⟨fun w' => madd_yes a b q hgr.lt h1 h2 h3 w'⟩
  · rw [if_neg h, if_neg h]
    exact sadd_core gr q a b _ _ hgr w ⟨fun w' => madd_no a b q ha hb hgr.lt (mayB_false h) w'⟩
theorem ssub_any (gr : Array Value) (q a b : Nat) (hgr : GroupRow gr q) (ha : a < big) (hb : b < big) (w : World) : Calls Try.prog 72 #[.agg gr, .agg (num a), .agg (num b)] w (MayEnds w (subV q a b) (mayE a b q)) := by
  unfold subV mayE
  by_cases h : mayB a b q = true
  · obtain ⟨h1, h2, h3⟩ := mayB_spec.1 h
    rw [if_pos h, if_pos h]
    exact ssub_core gr q a b _ _ hgr w ⟨fun w' => msub_yes a b q hgr.lt h1 h2 h3 w'⟩
  · rw [if_neg h, if_neg h]
    exact ssub_core gr q a b _ _ hgr w ⟨fun w' => msub_no a b q ha hb hgr.lt (mayB_false h) w'⟩
theorem smul_any (gr : Array Value) (q a b : Nat) (hgr : GroupRow gr q) (ha : a < big) (hb : b < big) (w : World) : Calls Try.prog 16 #[.agg gr, .agg (num a), .agg (num b)] w (MayEnds w (mulV q a b) (mayE a b q)) := by
  unfold mulV mayE
  by_cases h : mayB a b q = true
  · obtain ⟨h1, h2, h3⟩ := mayB_spec.1 h
    rw [if_pos h, if_pos h]
    exact smul_core gr q a b _ _ hgr w ⟨fun w' => mmul_yes a b q hgr.lt h1 h2 h3 w'⟩
  · rw [if_neg h, if_neg h]
    exact smul_core gr q a b _ _ hgr w ⟨fun w' => mmul_no a b q ha hb hgr.lt (mayB_false h) w'⟩
theorem sinv_any (gr : Array Value) (q a : Nat) (hgr : GroupRow gr q) (ha : a < big) (w : World) : Calls Try.prog 18 #[.agg gr, .agg (num a)] w (MayEnds w (invV q a) (invE q a)) := by
  unfold invV invE
  by_cases h : mayB a a q = true
  · obtain ⟨h1, h2, h3⟩ := mayB_spec.1 h
    rw [if_pos h, if_pos h]
    by_cases hg : Nat.gcd a q = 1
    · rw [if_pos hg, if_pos hg]
      exact sinv_core gr q a _ _ hgr w ⟨fun w' => minv_yes a q hgr.lt h1 h2 hg w'⟩
    · rw [if_neg hg, if_neg hg]
      exact sinv_core gr q a _ _ hgr w ⟨fun w' => minv_none a q hgr.lt h1 h2 hg w'⟩
  · rw [if_neg h, if_neg h]
    exact sinv_core gr q a _ _ hgr w ⟨fun w' => minv_no a q ha hgr.lt (mayB_false h) w'⟩
end Go.Proofs.Ythdanjbgbbcafaa
