/- scalars.Of of 1. -/
import Derived.Test.YthdanjbgbbcafaaScal
namespace Go.Proofs.Ythdanjbgbbcafaa
open Go Go.RowKit

theorem blen_two (q : Nat) : ((blen q : Nat) : Int) < 2 ↔ q < 2 := by
  constructor
  · intro h
    have h1 := blen_lt q
    have : (2 : Nat) ^ blen q ≤ 2 ^ 1 := Nat.pow_le_pow_right (by omega) (by omega)
    omega
  · intro h
    have : blen q ≤ 1 := blen_most q 1 (by omega)
    omega
/-- The closure's end: its variable has grown. -/
def StepEnds (w : World) (bx : Nat) (n : Nat) (e : Ending) (w' : World) : Prop := e = .returned (.tuple #[]) ∧ ∃ w1, Grows w w1 ∧ w' = w1.setRow bx (num n)
set_option maxRecDepth 100000 in
set_option maxHeartbeats 4000000 in
theorem ofAdd_any (gr : Array Value) (q x y bx bg : Nat) (hgr : GroupRow gr q) (h1 : 1 < q) (hx : x < q) (hy : y < q) (w : World) (BX : Blk w bx 24 (num x)) (BG : Blk w bg 26 gr) :
    Calls Try.prog 34 #[.agg (num y), .pointer (some ⟨bx, 0, none⟩), .pointer (some ⟨bg, 0, none⟩)] w (StepEnds w bx ((x + y) % q)) := by
  have hadd := fun w => madd_yes x y q hgr.lt h1 hx hy w
  obtain ⟨r, er⟩ : ∃ r : Nat, r = (x + y) % q := ⟨_, rfl⟩
  rw [← er] at hadd ⊢
  have HADD := hide hadd
  clear hadd er h1 hx hy
  have hbx := BX.lt
  go_enter Try.func34, Try.ntmps34
  go_upto_region 1 with fail
  have hY := hide (Blk.new w 24 (num y))
  have hX := hide (BX.alloc (.cells (num y) 24))
  have hG := hide (BG.alloc (.cells (num y) 24))
  have hL : Grows w (w.alloc (.cells (num y) 24)) := (Below.refl _ _).alloc (Nat.le_refl _) _
  have HL := hide hL
  clear BX BG hL
  change Code.wp _ _ _ _ (w.alloc (.cells (num y) 24))
  generalize w.alloc (.cells (num y) 24) = w1 at *
  go_wp2_with (first | (refine wpList_load_row rfl 24 _ rfl (bx) rfl 24 (num x) (0, 0) _ hX.out Try.underlying24 rfl info4 ?_) | (refine wpList_load_row rfl 24 _ rfl (w.heap.size) rfl 24 (num y) (0, 0) _ hY.out Try.underlying24 rfl info4 ?_) | (refine wpList_load_mid rfl 24 _ rfl bg 4 rfl (num q).toList _ (hgr.range hG.out) Try.underlying24 rfl info4 ?_) | fail)
  with_reducible refine (HADD.out _).mono ?_
  rintro e w2 ⟨rfl, L⟩
  have hX2 := hide (hX.out.below L hX.out.lt)
  have hL2 := hide (Grows.trans HL.out L)
  clear L HL hX hY hG HADD
  go_wp2_with (first | (refine wpList_store_row rfl 24 (.tmp 1) (.tmp 10) rfl (bx) (num r) rfl rfl 24 _ (hX2.out) info4 rfl (num_one _) ?_))
  exact bodyPost_ret (by kernel_rfl) rfl ⟨rfl, _, hL2.out, rfl⟩
theorem amount_one (w : World) : Calls Try.prog 32 #[.int .i64 1] w (fun e w' => e = .returned (.tuple #[.int .u64 1, .int .i64 0]) ∧ Below w.heap.size w w') := by
  go_enter Try.func32, Try.ntmps32
  go_wp2_with fail
  exact bodyPost_ret (by kernel_rfl) rfl ⟨rfl, Below.refl _ _⟩
structure OfMem (w : World) (gr : Array Value) (t26 t24 : TypeId) (wr : World) : Prop where
  below : Below w.heap.size w wr
  G : Blk wr w.heap.size t26 gr
  R : Blk wr (w.heap.size + 1) t24 (num 0)
theorem OfMem.start (w : World) (gr : Array Value) (t26 t24 : TypeId) (z : Array Value) (hz : z = num 0) : OfMem w gr t26 t24 ((w.alloc (.cells gr t26)).alloc (.cells z t24)) := by
  subst hz
  refine ⟨((Below.refl _ _).alloc (Nat.le_refl _) _).alloc ?_ _, (Blk.new w _ _).alloc _, ?_⟩
  · simp
  · have h := Blk.new (w.alloc (.cells gr t26)) t24 (num 0)
    simp only [World.size_alloc] at h
    exact h
theorem OfMem.grow {w wr w' : World} {gr : Array Value} {t26 t24 : TypeId} (h : OfMem w gr t26 t24 wr) (hb : Grows wr w') : OfMem w gr t26 t24 w' :=
  ⟨below_trans_grows h.below hb h.below.size, h.G.below hb h.G.lt, h.R.below hb h.R.lt⟩
theorem OfMem.far {w wr : World} {gr : Array Value} {t26 t24 : TypeId} (h : OfMem w gr t26 t24 wr) {g : Nat} (hg : w.heap.size + 1 < g) (cs : Array Value) : OfMem w gr t26 t24 (wr.setRow g cs) :=
  ⟨below_setRow h.below (by omega) _, h.G.setRow_far (by omega) _, h.R.setRow_far (by omega) _⟩
set_option maxRecDepth 100000 in
set_option maxHeartbeats 4000000 in
theorem sof_low (gr : Array Value) (q : Nat) (hgr : GroupRow gr q) (hq : q < 2) (w : World) : Calls Try.prog 14 #[.agg gr, .int .i64 1] w (NumEnds w 0) := by
  have hb := fun w => lbits_any q hgr.lt w
  have hlt := (blen_two q).2 hq
  obtain ⟨n, hn⟩ : ∃ n : Nat, n = blen q := ⟨_, rfl⟩
  rw [← hn] at hb hlt
  have HB := hide hb
  clear hb hn hq
  go_enter Try.func14, Try.ntmps14
  go_upto_region 1 with fail
  have M := OfMem.start w gr 26 24 nought num_zero.symm
  change Code.wp _ _ _ _ ((w.alloc (.cells gr 26)).alloc (.cells nought 24))
  generalize (w.alloc (.cells gr 26)).alloc (.cells nought 24) = w1 at *
  have HM := hide M
  clear M
  go_wp2_with (first | (refine wpList_load_mid rfl 24 _ rfl (w.heap.size) 4 rfl (num q).toList _ (hgr.range HM.out.G) Try.underlying24 rfl info4 ?_) | fail)
  with_reducible refine (HB.out _).mono ?_
  rintro e w2 ⟨rfl, L⟩
  have HM2 := hide (HM.out.grow L)
  clear L HM HB
  go_wp2_with (first | (refine wpList_store_row rfl 24 (.tmp 4) (.tmp 14) rfl (w.heap.size + 1) nought rfl rfl 24 _ (HM2.out.R) info4 rfl (word_one 0) ?_))
  have hS : Blk (w2.setRow (w.heap.size + 1) nought) (w.heap.size + 1) 24 (num 0) := by
    have h0 := HM2.out.R.setRow nought
    rw [num_zero]
    exact h0
  exact bodyPost_ret (results_num rfl rfl hS) rfl ⟨rfl, below_setRow HM2.out.below (by omega) _⟩
def OfRel (w : World) (gr : Array Value) (t26 t24 : TypeId) (bx : Nat) (vi : Value) (wr : World) : Prop :=
  OfMem w gr t26 t24 wr ∧ ((vi = .int .i64 0 ∧ Blk wr bx t24 (num 0)) ∨ (vi = .int .i64 1 ∧ Blk wr bx t24 (num 1)))
set_option maxRecDepth 100000 in
set_option maxHeartbeats 4000000 in
theorem sof_high (gr : Array Value) (q : Nat) (hgr : GroupRow gr q) (hq : 1 < q) (w : World) : Calls Try.prog 14 #[.agg gr, .int .i64 1] w (NumEnds w 1) := by
  have hb := fun w => lbits_any q hgr.lt w
  have hlt : ¬ ((blen q : Nat) : Int) < 2 := fun h => by have := (blen_two q).1 h; omega
  obtain ⟨n, hn⟩ : ∃ n : Nat, n = blen q := ⟨_, rfl⟩
  rw [← hn] at hb hlt
  have hof : ∀ w, Calls Try.prog 33 #[.int .u64 1] w (NumEnds w 1) := fun w => lof_any 1 (by decide) w
  have hof0 : ∀ w, Calls Try.prog 33 #[.int .u64 0] w (NumEnds w 0) := fun w => lof_any 0 (by decide) w
  have HB := hide hb
  have HOF := hide hof
  have HOF0 := hide hof0
  have HLEN : Keep (∀ w, Calls Try.prog 36 #[.int .u64 1] w fun e w' => e = .returned (.int .i64 1) ∧ w = w') := ⟨fun w => len64_any 1 w (by decide)⟩
  clear hb hn hof hof0
  go_enter Try.func14, Try.ntmps14
  go_upto_region 1 with fail
  have M := OfMem.start w gr 26 24 nought num_zero.symm
  change Code.wp _ _ _ _ ((w.alloc (.cells gr 26)).alloc (.cells nought 24))
  generalize (w.alloc (.cells gr 26)).alloc (.cells nought 24) = w1 at *
  have HM := hide M
  clear M
  go_wp2_with (first | (refine wpList_load_mid rfl 24 _ rfl (w.heap.size) 4 rfl (num q).toList _ (hgr.range HM.out.G) Try.underlying24 rfl info4 ?_) | fail)
  with_reducible refine (HB.out _).mono ?_
  rintro e w2 ⟨rfl, L⟩
  have HM2 := hide (HM.out.grow L)
  clear L HM HB
  go_wp2_with fail
  with_reducible refine (amount_one _).mono ?_
  rintro e w3 ⟨rfl, L⟩
  have HM3 := hide (HM2.out.grow L)
  clear L HM2
  go_wp2_with fail
  with_reducible refine (HOF0.out _).mono ?_
  rintro e w4 ⟨rfl, L⟩
  have HM4 := hide (HM3.out.grow L)
  clear L HM3 HOF0
  have hsz := HM4.out.R.lt
  go_upto_region 5 with (first | (refine wpList_store_row rfl 24 (.tmp 7) (.tmp 20) rfl (w4.heap.size) (num 0) rfl rfl 24 _ (Blk.new w4 _ nought) info4 rfl (num_one _) ?_))
  obtain ⟨R0, L0⟩ := num_box w4 24 (num 0)
  change Code.wp _ _ _ _ ((w4.alloc (.cells nought 24)).setRow w4.heap.size (num 0))
  generalize (w4.alloc (.cells nought 24)).setRow w4.heap.size (num 0) = w5 at *
  have HM5 := hide (HM4.out.grow L0)
  have HX5 := hide R0
  obtain ⟨bx, hbx⟩ : ∃ g : Nat, g = w4.heap.size := ⟨_, rfl⟩
  rw [← hbx] at HX5 hsz ⊢
  clear R0 L0 HM4 hbx
  go_wp2_with fail
  with_reducible refine (HLEN.out _).mono ?_
  rintro e w6 ⟨rfl, rfl⟩
  have hbx : w.heap.size + 1 < bx := hsz
  clear hsz hlt
  go_wp2_with fail
  go_loopw [24] (fun vi wr => OfRel w gr 26 24 bx vi wr) (fun i _ => 1 - (intOf i).toNat)
  case atStart => exact ⟨HM5.out, .inl ⟨rfl, HX5.out⟩⟩
  case round =>
    clear HM5 HX5
    obtain ⟨M, hc⟩ := hrel
    have HM := hide M
    clear M
    rcases hc with ⟨rfl, BX⟩ | ⟨rfl, BX⟩
    · have HX := hide BX
      clear BX
      go_wp2_with (first | (refine wpList_load_row rfl 24 _ rfl bx rfl 24 (num 0) (0, 0) _ HX.out Try.underlying24 rfl info4 ?_) | fail)
      with_reducible refine (ofAdd_any gr q 0 0 bx w.heap.size hgr hq (by omega) (by omega) _ HX.out HM.out.G).mono ?_
      rintro e w6 ⟨rfl, w7, L, rfl⟩
      have HM1 := hide ((HM.out.grow L).far hbx (num ((0 + 0) % q)))
      have HX1 := hide ((HX.out.below L HX.out.lt).setRow (num ((0 + 0) % q)))
      rw [Nat.zero_add, Nat.zero_mod] at HM1 HX1
      rw [Nat.zero_add, Nat.zero_mod]
      clear L HM HX
      generalize w7.setRow bx (num 0) = w8 at *
      go_wp2_with fail
      with_reducible refine (HLEN.out _).mono ?_
      rintro e w6 ⟨rfl, rfl⟩
      go_wp2_with fail
      with_reducible refine (HOF.out _).mono ?_
      rintro e w9 ⟨rfl, L⟩
      have HM2 := hide (HM1.out.grow L)
      have HX2 := hide (HX1.out.below L HX1.out.lt)
      clear L HM1 HX1
      go_wp2_with fail
      with_reducible refine (ofAdd_any gr q 0 1 bx w.heap.size hgr hq (by omega) (by omega) _ HX2.out HM2.out.G).mono ?_
      rintro e w6 ⟨rfl, w7, L, rfl⟩
      have e1 : (0 + 1) % q = 1 := by rw [Nat.zero_add]; exact Nat.mod_eq_of_lt hq
      rw [e1]
      have HM3 := hide ((HM2.out.grow L).far hbx (num 1))
      have HX3 := hide ((HX2.out.below L HX2.out.lt).setRow (num 1))
      clear L HM2 HX2 e1
      generalize w7.setRow bx (num 1) = w10 at *
      go_wp2_with fail
      go_roundw
      case rel => exact ⟨HM3.out, .inr ⟨by go_num, HX3.out⟩⟩
      case measure => simp [intOf]
    · have HX := hide BX
      clear BX
      go_wp2_with (first | (refine wpList_load_row rfl 24 _ rfl bx rfl 24 (num 1) (0, 0) _ HX.out Try.underlying24 rfl info4 ?_) | (refine wpList_store_row rfl 24 (.tmp 4) (.tmp 53) rfl (w.heap.size + 1) (num 1) rfl rfl 24 _ (HM.out.R) info4 rfl (num_one _) ?_))
      have hS := HM.out.R.setRow (num 1)
      try rw [Exit.noGoto_ret]
      exact bodyPost_ret (results_num rfl rfl hS) rfl ⟨rfl, below_setRow HM.out.below (by omega) _⟩
def oneV (q : Nat) : Nat := if 1 < q then 1 else 0
theorem sof_one (gr : Array Value) (q : Nat) (hgr : GroupRow gr q) (w : World) : Calls Try.prog 14 #[.agg gr, .int .i64 1] w (NumEnds w (oneV q)) := by
  unfold oneV
  by_cases h : 1 < q
  · rw [if_pos h]; exact sof_high gr q hgr h w
  · rw [if_neg h]; exact sof_low gr q hgr (by omega) w
end Go.Proofs.Ythdanjbgbbcafaa
