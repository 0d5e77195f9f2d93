/- Long numbers: sums, differences, which is greater, their bits: walked. -/
import Derived.Test.YthdanjbgbbcafaaNum
import Derived.Deep.RegionHeld3
namespace Go.Proofs.Ythdanjbgbbcafaa
open Go Go.RowKit

theorem cell_grows {w : World} {g : Nat} {t : TypeId} {cs : Array Value} {i : Nat} {v : Value} (h : Blk w g t cs) (hv : cs[i]? = some v) : ∀ w', Grows w w' → w'.cell? ⟨g, i, none⟩ = some v :=
  fun _ hg => (hg.cell (p := ⟨g, i, none⟩) h.lt).trans ((h.cell i).trans hv)
theorem info4 : (Try.prog.info? 24).map (·.size) = some 4 := by kernel_rfl
/-- A block of a number, read whole. -/
theorem load_num {w : World} {g : Nat} {t : TypeId} {f : Nat → Nat} (B : Blk w g t (wrow f)) : (Instr.loadAt 24 (.pointer (some ⟨g, 0, none⟩))).run Try.prog w = .ok (.agg (wrow f)) w := by
  refine run_loadAt_mid w g 0 24 (wrow f).toList _ (fun i v hv => ?_) Try.underlying24 rfl (by rw [Array.length_toList, wrow_size]; exact info4)
  rw [B.cell, ← hv]
  rw [Nat.zero_add, Array.getElem?_toList]
theorem load_num_grows {w : World} {g : Nat} {t : TypeId} {f : Nat → Nat} (B : Blk w g t (wrow f)) : ∀ w', Grows w w' → (Instr.loadAt 24 (.pointer (some ⟨g, 0, none⟩))).run Try.prog w' = .ok (.agg (wrow f)) w' :=
  fun _ h => load_num (B.below h B.lt)
theorem loadVar_num {w : World} {g : Nat} {t : TypeId} {f : Nat → Nat} (B : Blk w g t (wrow f)) : (loadVar 24 ⟨g, 0, none⟩).run Try.prog w = .ok (.agg (wrow f)) w :=
  run_loadVar_row w g t 24 (wrow f) (0, 0) _ B Try.underlying24 rfl info4
/-- A function's results: a number in memory, and a word. -/
theorem results_num_tmp {fn : Func} {p u : Tmp} (h : fn.results = #[.cell p 24, .tmp u]) {tmps : Array Value} {w : World} {g : Nat} {t : TypeId} {f : Nat → Nat} (hp : tmps.getD p undef = .pointer (some ⟨g, 0, none⟩)) (B : Blk w g t (wrow f)) :
    (results fn tmps).run Try.prog w = .ok (.tuple #[.agg (wrow f), tmps.getD u undef]) w := by
  rw [results_cell_tmp h, hp]
  simp only [asAddr, Sem.run_pure, Result.andThen_ok, loadVar_num B]
theorem results_num {fn : Func} {p : Tmp} (h : fn.results = #[.cell p 24]) {tmps : Array Value} {w : World} {g : Nat} {t : TypeId} {f : Nat → Nat} (hp : tmps.getD p undef = .pointer (some ⟨g, 0, none⟩)) (B : Blk w g t (wrow f)) :
    (results fn tmps).run Try.prog w = .ok (.agg (wrow f)) w :=
  results_cell_row h tmps w g t (wrow f) (0, 0) _ hp B Try.underlying24 rfl info4

def SumEnds (w : World) (s c : Nat) (e : Ending) (w' : World) : Prop := e = .returned (.tuple #[.agg (num s), uw c]) ∧ Below w.heap.size w w'
def SumRel (w : World) (t24 : TypeId) (a b : Nat) (c s : Nat → Nat) (vc vi : Value) (wr : World) : Prop :=
  ∃ k : Nat, k ≤ 4 ∧ vi = .int .i64 (k : Nat) ∧ vc = uw (c k) ∧ Below w.heap.size w wr ∧ Blk wr w.heap.size t24 (num a) ∧ Blk wr (w.heap.size + 1) t24 (num b) ∧ Blk wr (w.heap.size + 1 + 1) t24 (wrow (part_ s k))

set_option maxHeartbeats 1000000 in
theorem ladd_four (a b : Nat) (w : World) :
    Calls Try.prog 53 #[.agg (num a), .agg (num b)] w (SumEnds w (ofw (sAdd a b)) (cAdd a b 4)) := by
  go_enter Try.func53, Try.ntmps53
  go_wp2_with fail
  have A1 := ((Blk.new w 24 (num a)).alloc (.cells (num b) 24)).alloc (.cells (num 0) 24)
  have B1 := (Blk.new (w.alloc (.cells (num a) 24)) 24 (num b)).alloc (.cells (num 0) 24)
  have C1 := Blk.new ((w.alloc (.cells (num a) 24)).alloc (.cells (num b) 24)) 24 (num 0)
  have L1 : Below w.heap.size w (((w.alloc (.cells (num a) 24)).alloc (.cells (num b) 24)).alloc (.cells (num 0) 24)) := (((Below.refl _ _).alloc (Nat.le_refl _) _).alloc (by simp) _).alloc (by simp; omega) _
  simp only [World.size_alloc] at B1 C1
  rw [num_zero] at A1 B1 C1 L1
  generalize ((w.alloc (.cells (num a) 24)).alloc (.cells (num b) 24)).alloc (.cells #[uw 0, uw 0, uw 0, uw 0] 24) = w1 at *
  rw [← num_zero, ← part_zero (sAdd a b)] at C1
  go_loopw [5, 7] (fun vc vi wr => SumRel w 24 a b (cAdd a b) (sAdd a b) vc vi wr) (fun _ i _ => 4 - (intOf i).toNat)
  case atStart => exact ⟨0, by omega, rfl, rfl, L1, A1, B1, C1⟩
  case round =>
    clear L1 A1 B1 C1
    obtain ⟨k, hk, rfl, rfl, L, A, B, C⟩ := hrel
    by_cases hk4 : k < 4
    · have ga := (A.cell k).trans (num_at a k hk4)
      have gb := (B.cell k).trans (num_at b k hk4)
      have hz := C.frozen k
      have hrun : ∀ w, (callFunc 73 #[uw (wd a k), uw (wd b k), uw (cAdd a b k)]).run Try.prog w = .ok (.value (.tuple #[uw (sAdd a b k), uw (cAdd a b (k + 1))])) w := add64_run (wd a k) (wd b k) (cAdd a b k) (cAdd_le a b k)
      have hcw := (C.cell k).trans (wrow_at (part_ (sAdd a b) k) k hk4)
      have hset := part_set (sAdd a b) k hk4
      have HS := hide hset
      have HCW := hide hcw
      clear hset
      have HL := hide L
      have HA := hide A
      have HB := hide B
      have HC := hide C
      clear L A B C
      generalize cAdd a b k = c0 at *
      generalize hc1 : cAdd a b (k + 1) = c1 at *
      generalize sAdd a b k = s0 at *
      generalize wd a k = x at *
      generalize wd b k = y at *
      have HC1 := hide hc1
      clear hc1
      go_wp2_with fail
      have hn1 : (⟨w.heap.size + 1 + 1, k, none⟩ : Addr) ≠ ⟨w.heap.size, k, none⟩ := by simp
      have hn2 : (⟨w.heap.size + 1 + 1, k, none⟩ : Addr) ≠ ⟨w.heap.size + 1, k, none⟩ := by simp
      have HN1 := hide hn1
      have HN2 := hide hn2
      clear hn1 hn2
      go_region_held3 (fun w' => w'.cell? ⟨w.heap.size, k, none⟩ = some (uw x) ∧ w'.cell? ⟨w.heap.size + 1, k, none⟩ = some (uw y)) (first | exact ⟨ga, gb⟩ | exact ⟨(World.cell?_setCell_other _ _ _ _ HN1.out).trans ga, (World.cell?_setCell_other _ _ _ _ HN2.out).trans gb⟩) (fail)
      go_wp2_with fail
      go_roundw
      case rel =>
        refine ⟨k + 1, by omega, by go_num, by rw [HC1.out], (HL.out.setCell (p := ⟨w.heap.size + 1 + 1, k, none⟩) (by simp; omega) _).drew, (HA.out.far (p := ⟨w.heap.size + 1 + 1, k, none⟩) (by simp; omega) _).drew, (HB.out.far (p := ⟨w.heap.size + 1 + 1, k, none⟩) (by simp) _).drew, ?_⟩
        have H := HC.out.set_ k (uw s0)
        rw [HS.out] at H
        exact H.drew
      case measure => simp [intOf]; omega
    · obtain rfl : k = 4 := by omega
      rw [part_full] at C
      have HL := hide L
      have HC := hide C
      clear L A B C
      have hlt : ∀ i, i < 4 → sAdd a b i < 18446744073709551616 := fun i _ => sAdd_lt a b i
      have HN := hide (wrow_num hlt)
      clear hlt
      generalize cAdd a b 4 = c4 at *
      generalize sAdd a b = f at *
      go_wp2_with (first
        | (refine wpList_load_row rfl 24 _ rfl (w.heap.size + 1 + 1) rfl 24 (wrow f) (0, 0) _ HC.out Try.underlying24 rfl info4 ?_)
        | (refine wpList_store_row rfl 24 (.tmp 4) (.tmp 24) rfl (w.heap.size + 1 + 1) (wrow f) rfl rfl 24 _ HC.out info4 rfl (wrow_one f) ?_))
      have hS := HC.out.setRow (wrow f)
      refine bodyPost_ret (results_num_tmp rfl rfl hS) rfl ⟨by rw [HN.out]; rfl, below_setRow HL.out (by omega) _⟩
theorem ladd_any (a b : Nat) (ha : a < big) (hb : b < big) (w : World) :
    Calls Try.prog 53 #[.agg (num a), .agg (num b)] w (SumEnds w ((a + b) % big) ((a + b) / big)) := by
  obtain ⟨hs, hc⟩ := add_sum ha hb
  rw [← hs, ← hc]
  exact ladd_four a b w

set_option maxHeartbeats 1000000 in
theorem lsub_four (a b : Nat) (w : World) :
    Calls Try.prog 54 #[.agg (num a), .agg (num b)] w (SumEnds w (ofw (sSub a b)) (cSub a b 4)) := by
  go_enter Try.func54, Try.ntmps54
  go_wp2_with fail
  have A1 := ((Blk.new w 24 (num a)).alloc (.cells (num b) 24)).alloc (.cells (num 0) 24)
  have B1 := (Blk.new (w.alloc (.cells (num a) 24)) 24 (num b)).alloc (.cells (num 0) 24)
  have C1 := Blk.new ((w.alloc (.cells (num a) 24)).alloc (.cells (num b) 24)) 24 (num 0)
  have L1 : Below w.heap.size w (((w.alloc (.cells (num a) 24)).alloc (.cells (num b) 24)).alloc (.cells (num 0) 24)) := (((Below.refl _ _).alloc (Nat.le_refl _) _).alloc (by simp) _).alloc (by simp; omega) _
  simp only [World.size_alloc] at B1 C1
  rw [num_zero] at A1 B1 C1 L1
  generalize ((w.alloc (.cells (num a) 24)).alloc (.cells (num b) 24)).alloc (.cells #[uw 0, uw 0, uw 0, uw 0] 24) = w1 at *
  rw [← num_zero, ← part_zero (sSub a b)] at C1
  go_loopw [5, 7] (fun vc vi wr => SumRel w 24 a b (cSub a b) (sSub a b) vc vi wr) (fun _ i _ => 4 - (intOf i).toNat)
  case atStart => exact ⟨0, by omega, rfl, rfl, L1, A1, B1, C1⟩
  case round =>
    clear L1 A1 B1 C1
    obtain ⟨k, hk, rfl, rfl, L, A, B, C⟩ := hrel
    by_cases hk4 : k < 4
    · have ga := (A.cell k).trans (num_at a k hk4)
      have gb := (B.cell k).trans (num_at b k hk4)
      have hz := C.frozen k
      have hrun : ∀ w, (callFunc 74 #[uw (wd a k), uw (wd b k), uw (cSub a b k)]).run Try.prog w = .ok (.value (.tuple #[uw (sSub a b k), uw (cSub a b (k + 1))])) w := sub64_run (wd a k) (wd b k) (cSub a b k) (cSub_le a b k)
      have hcw := (C.cell k).trans (wrow_at (part_ (sSub a b) k) k hk4)
      have hset := part_set (sSub a b) k hk4
      have HS := hide hset
      have HCW := hide hcw
      clear hset
      have HL := hide L
      have HA := hide A
      have HB := hide B
      have HC := hide C
      clear L A B C
      generalize cSub a b k = c0 at *
      generalize hc1 : cSub a b (k + 1) = c1 at *
      generalize sSub a b k = s0 at *
      generalize wd a k = x at *
      generalize wd b k = y at *
      have HC1 := hide hc1
      clear hc1
      go_wp2_with fail
      have hn1 : (⟨w.heap.size + 1 + 1, k, none⟩ : Addr) ≠ ⟨w.heap.size, k, none⟩ := by simp
      have hn2 : (⟨w.heap.size + 1 + 1, k, none⟩ : Addr) ≠ ⟨w.heap.size + 1, k, none⟩ := by simp
      have HN1 := hide hn1
      have HN2 := hide hn2
      clear hn1 hn2
      go_region_held3 (fun w' => w'.cell? ⟨w.heap.size, k, none⟩ = some (uw x) ∧ w'.cell? ⟨w.heap.size + 1, k, none⟩ = some (uw y)) (first | exact ⟨ga, gb⟩ | exact ⟨(World.cell?_setCell_other _ _ _ _ HN1.out).trans ga, (World.cell?_setCell_other _ _ _ _ HN2.out).trans gb⟩) (fail)
      go_wp2_with fail
      go_roundw
      case rel =>
        refine ⟨k + 1, by omega, by go_num, by rw [HC1.out], (HL.out.setCell (p := ⟨w.heap.size + 1 + 1, k, none⟩) (by simp; omega) _).drew, (HA.out.far (p := ⟨w.heap.size + 1 + 1, k, none⟩) (by simp; omega) _).drew, (HB.out.far (p := ⟨w.heap.size + 1 + 1, k, none⟩) (by simp) _).drew, ?_⟩
        have H := HC.out.set_ k (uw s0)
        rw [HS.out] at H
        exact H.drew
      case measure => simp [intOf]; omega
    · obtain rfl : k = 4 := by omega
      rw [part_full] at C
      have HL := hide L
      have HC := hide C
      clear L A B C
      have hlt : ∀ i, i < 4 → sSub a b i < 18446744073709551616 := fun i _ => sSub_lt a b i
      have HN := hide (wrow_num hlt)
      clear hlt
      generalize cSub a b 4 = c4 at *
      generalize sSub a b = f at *
      go_wp2_with (first
        | (refine wpList_load_row rfl 24 _ rfl (w.heap.size + 1 + 1) rfl 24 (wrow f) (0, 0) _ HC.out Try.underlying24 rfl info4 ?_)
        | (refine wpList_store_row rfl 24 (.tmp 4) (.tmp 24) rfl (w.heap.size + 1 + 1) (wrow f) rfl rfl 24 _ HC.out info4 rfl (wrow_one f) ?_))
      have hS := HC.out.setRow (wrow f)
      refine bodyPost_ret (results_num_tmp rfl rfl hS) rfl ⟨by rw [HN.out]; rfl, below_setRow HL.out (by omega) _⟩
theorem lsub_any (a b : Nat) (ha : a < big) (hb : b < big) (w : World) :
    Calls Try.prog 54 #[.agg (num a), .agg (num b)] w (SumEnds w ((a + big - b) % big) (if a < b then 1 else 0)) := by
  obtain ⟨hs, hc⟩ := sub_dif ha hb
  rw [← hs, ← hc]
  exact lsub_four a b w
end Go.Proofs.Ythdanjbgbbcafaa
