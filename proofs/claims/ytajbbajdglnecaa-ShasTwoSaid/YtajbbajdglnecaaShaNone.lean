/- ShasNone: what a sum that is not there, or that no call made, answers; and the law's walk. -/
import Derived.Test.YtajbbajdglnecaaShaD
import Derived.Test.YtajbbajdglnecaaEq
namespace Go.Proofs.Ytajbbajdglnecaa
open Go Go.RowKit

set_option maxHeartbeats 400000 in
theorem write_nil (v : Value) (w : World) : Calls Try.prog 17 #[.pointer none, v] w fun e w' => e = .returned (.int .i64 2) ∧ w = w' := by
  go_enter Try.func17, Try.ntmps17
  go_wp2_with fail
  go_ret
  exact ⟨rfl, rfl⟩
set_option maxHeartbeats 400000 in
theorem write_zero (b : Nat) (v : Value) (w : World) (h : w.cell? ⟨b, 0, none⟩ = some (.int .i64 0)) : Calls Try.prog 17 #[.pointer (some ⟨b, 0, none⟩), v] w fun e w' => e = .returned (.int .i64 2) ∧ w = w' := by
  go_enter Try.func17, Try.ntmps17
  go_wp2_with fail
  go_ret
  exact ⟨rfl, rfl⟩
/-- 32 noughts. -/
def noughts : Array Value := (List.replicate 32 (Value.int .u8 0)).toArray
theorem info32 : (Try.prog.info? 48).map (·.size) = some 32 := by kernel_rfl
def HashEnds (w : World) (cs : Array Value) (e : Ending) (w' : World) : Prop := e = .returned (.agg cs) ∧ Below w.heap.size w w'
set_option maxHeartbeats 400000 in
set_option maxRecDepth 100000 in
theorem hash_nil (w : World) : Calls Try.prog 18 #[.pointer none] w (HashEnds w noughts) := by
  go_enter Try.func18, Try.ntmps18
  go_upto_region 1 with fail
  have HB := Blk.new w 48 noughts
  have HL : Below w.heap.size w (w.alloc (.cells noughts 48)) := (Below.refl _ _).alloc (Nat.le_refl _) _
  change Code.wp _ _ _ _ (w.alloc (.cells noughts 48))
  generalize w.alloc (.cells noughts 48) = w1 at *
  go_wp2_with (first
    | (refine wpList_load_row rfl 48 _ rfl w.heap.size rfl 48 noughts (0, 0) _ HB Try.underlying48 rfl info32 ?_)
    | (refine wpList_store_row rfl 48 _ _ rfl w.heap.size noughts rfl rfl 48 _ HB info32 rfl (by kernel_rfl) ?_))
  refine bodyPost_ret (results_cell_row rfl _ _ w.heap.size 48 noughts (0, 0) _ rfl (HB.setRow _) Try.underlying48 rfl info32) rfl ⟨rfl, ?_⟩
  exact below_setRow HL (Nat.le_refl _) _
set_option maxHeartbeats 400000 in
set_option maxRecDepth 100000 in
theorem hash_zero (b : Nat) (w : World) (h : w.cell? ⟨b, 0, none⟩ = some (.int .i64 0)) : Calls Try.prog 18 #[.pointer (some ⟨b, 0, none⟩)] w (HashEnds w noughts) := by
  go_enter Try.func18, Try.ntmps18
  go_upto_region 1 with fail
  have HB := Blk.new w 48 noughts
  have HL : Below w.heap.size w (w.alloc (.cells noughts 48)) := (Below.refl _ _).alloc (Nat.le_refl _) _
  have h1 := (HL.cell (p := ⟨b, 0, none⟩) (lt_of_cell h)).trans h
  clear h
  change Code.wp _ _ _ _ (w.alloc (.cells noughts 48))
  generalize w.alloc (.cells noughts 48) = w1 at *
  go_wp2_with (first
    | (refine wpList_load_row rfl 48 _ rfl w.heap.size rfl 48 noughts (0, 0) _ HB Try.underlying48 rfl info32 ?_)
    | (refine wpList_store_row rfl 48 _ _ rfl w.heap.size noughts rfl rfl 48 _ HB info32 rfl (by kernel_rfl) ?_))
  refine bodyPost_ret (results_cell_row rfl _ _ w.heap.size 48 noughts (0, 0) _ rfl (HB.setRow _) Try.underlying48 rfl info32) rfl ⟨rfl, ?_⟩
  exact below_setRow HL (Nat.le_refl _) _

theorem info_u8 : (Try.prog.info? 5).map (fun i => (i.zero, i.size, i.bytes)) = some (some (.int .u8 0), 1, 1) := by kernel_rfl
theorem noughts_at (j : Nat) (h : j < 32) : noughts[j]? = some (.int .u8 0) := by
  unfold noughts
  rw [List.getElem?_toArray, List.getElem?_replicate, if_pos h]
theorem neq_noughts (w : World) : (binOp .neq 48 (.agg noughts) (.agg #[.int .u8 0, .int .u8 0, .int .u8 0, .int .u8 0, .int .u8 0, .int .u8 0, .int .u8 0, .int .u8 0, .int .u8 0, .int .u8 0, .int .u8 0, .int .u8 0, .int .u8 0, .int .u8 0, .int .u8 0, .int .u8 0, .int .u8 0, .int .u8 0, .int .u8 0, .int .u8 0, .int .u8 0, .int .u8 0, .int .u8 0, .int .u8 0, .int .u8 0, .int .u8 0, .int .u8 0, .int .u8 0, .int .u8 0, .int .u8 0, .int .u8 0, .int .u8 0])).run Try.prog w = .ok (.bool false) w := by
  obtain ⟨i0, hi0, _, hi1, _⟩ := info_parts info_u8
  have h := run_neq_ints 48 5 32 .u8 i0 noughts noughts (fun _ => 0) (fun _ => 0) Try.underlying48 Try.underlying5 hi0 hi1 noughts_at noughts_at w
  rw [eqFrom_self] at h
  exact h

/-- A sum that no call made. -/
def sumZero : Array Value := #[.int .i64 0, .int .u32 0, .int .u32 0, .int .u32 0, .int .u32 0, .int .u32 0, .int .u32 0, .int .u32 0, .int .u32 0, .int .u8 0, .int .u8 0, .int .u8 0, .int .u8 0, .int .u8 0, .int .u8 0, .int .u8 0, .int .u8 0, .int .u8 0, .int .u8 0, .int .u8 0, .int .u8 0, .int .u8 0, .int .u8 0, .int .u8 0, .int .u8 0, .int .u8 0, .int .u8 0, .int .u8 0, .int .u8 0, .int .u8 0, .int .u8 0, .int .u8 0, .int .u8 0, .int .u8 0, .int .u8 0, .int .u8 0, .int .u8 0, .int .u8 0, .int .u8 0, .int .u8 0, .int .u8 0, .int .u8 0, .int .u8 0, .int .u8 0, .int .u8 0, .int .u8 0, .int .u8 0, .int .u8 0, .int .u8 0, .int .u8 0, .int .u8 0, .int .u8 0, .int .u8 0, .int .u8 0, .int .u8 0, .int .u8 0, .int .u8 0, .int .u8 0, .int .u8 0, .int .u8 0, .int .u8 0, .int .u8 0, .int .u8 0, .int .u8 0, .int .u8 0, .int .u8 0, .int .u8 0, .int .u8 0, .int .u8 0, .int .u8 0, .int .u8 0, .int .u8 0, .int .u8 0, .int .u64 0]
def NoneRel (W : World) (lb b : Nat) (tl tb : TypeId) (cs : Array Value) (v : Value) (wr : World) : Prop :=
  ∃ k : Nat, k ≤ 2 ∧ v = .int .i64 k ∧ Below W.heap.size W wr ∧ Blk wr lb tl #[.pointer none, .pointer (some ⟨b, 0, none⟩)] ∧ Blk wr b tb cs
def LawEnds (w : World) (e : Ending) (w' : World) : Prop := e = .returned (.bool true) ∧ Below w.heap.size w w'

set_option maxRecDepth 100000 in
set_option maxHeartbeats 2000000 in
theorem none_any (v : Value) (W : World) : Calls Try.prog 5 #[v] W (LawEnds W) := by
  go_enter Try.func5, Try.ntmps5
  go_wp2_with (refine wpList_build_is rfl 44 _ sumZero rfl (by kernel_rfl) ?_)
  have H1 := (Blk.new W 44 sumZero).alloc (.cells #[.pointer none, .pointer (some ⟨W.heap.size, 0, none⟩)] 37)
  have H2 := Blk.new (W.alloc (.cells sumZero 44)) 37 #[.pointer none, .pointer (some ⟨W.heap.size, 0, none⟩)]
  rw [World.size_alloc] at H2
  go_loopw [4] (fun i wr => NoneRel W (W.heap.size + 1) W.heap.size 37 44 sumZero i wr) (fun i _ => 2 - (intOf i).toNat)
  case atStart => exact ⟨0, by omega, rfl, ((Below.refl _ _).alloc (Nat.le_refl _) _).alloc (by simp) _, H2, H1⟩
  case round =>
    clear H1 H2
    obtain ⟨k, hk, rfl, L, B1, B2⟩ := hrel
    have hk3 : k = 0 ∨ k = 1 ∨ k = 2 := by omega
    rcases hk3 with rfl | rfl | rfl
    · clear hk
      have c0 : wr.cell? ⟨W.heap.size + 1, 0, none⟩ = some (.pointer none) := B1.cell 0
      go_wp2_with fail
      refine (write_nil _ _).mono ?_
      rintro e w1 ⟨rfl, rfl⟩
      have hne := neq_noughts
      go_wp2_with fail
      refine (hash_nil _).mono ?_
      rintro e w2 ⟨rfl, hb⟩
      have L1 : Below W.heap.size W w2 := L.trans (hb.mono L.size)
      have B11 := B1.below hb B1.lt
      have B21 := B2.below hb B2.lt
      clear hb L B1 B2 c0
      go_wp2_with fail
      go_roundw
      case rel => exact ⟨0 + 1, by omega, rfl, L1, B11, B21⟩
      case measure => simp [intOf]
    · clear hk
      have z0 : wr.cell? ⟨W.heap.size, 0, none⟩ = some (.int .i64 0) := B2.cell 0
      have c0 : wr.cell? ⟨W.heap.size + 1, 1, none⟩ = some (.pointer (some ⟨W.heap.size, 0, none⟩)) := B1.cell 1
      go_wp2_with fail
      refine (write_zero _ _ _ z0).mono ?_
      rintro e w1 ⟨rfl, rfl⟩
      have hne := neq_noughts
      go_wp2_with fail
      refine (hash_zero _ _ z0).mono ?_
      rintro e w2 ⟨rfl, hb⟩
      have L1 : Below W.heap.size W w2 := L.trans (hb.mono L.size)
      have B11 := B1.below hb B1.lt
      have B21 := B2.below hb B2.lt
      clear hb L B1 B2 c0
      go_wp2_with fail
      go_roundw
      case rel => exact ⟨1 + 1, by omega, rfl, L1, B11, B21⟩
      case measure => simp [intOf]
    · go_wp2_with fail
      go_ret
      exact ⟨rfl, L⟩

open Go.ChangeShapes Go.WideShapes Go.ChangeAt Go.Joins in
theorem none_law {H : Type} (enc : TypeId × Value → H) (W : World) (base : Nat) (v : Value) {d : DataW H} {p : List MemPlace} {S : List TypeId} {D : List (DataW H)}
    (_ : Value.okWide Try.prog W .any base 22 v) (_ : DataW.Trod enc Try.prog W 0 (fun _ => true) true 22 v d p) (_ : (DataW.weightsEach Try.prog S D).all (· ≤ reachBytes) = true) (_ : W.noneFrozen p) :
    Calls Try.prog 5 #[v] W (LawEnds W) := none_any v W

end Go.Proofs.Ytajbbajdglnecaa
