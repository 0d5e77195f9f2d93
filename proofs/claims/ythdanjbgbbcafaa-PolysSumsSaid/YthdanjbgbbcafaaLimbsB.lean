/- Long numbers: small ones, which is greater, their bits: walked. -/
import Derived.Test.YthdanjbgbbcafaaLimbs
import Derived.Deep.DeepCutAuto
namespace Go.Proofs.Ythdanjbgbbcafaa
open Go Go.RowKit

def NumEnds (w : World) (n : Nat) (e : Ending) (w' : World) : Prop := e = .returned (.agg (num n)) ∧ Below w.heap.size w w'
def IntEnds (w : World) (n : Int) (e : Ending) (w' : World) : Prop := e = .returned (.int .i64 n) ∧ Below w.heap.size w w'
def WordEnds (w : World) (n : Nat) (e : Ending) (w' : World) : Prop := e = .returned (uw n) ∧ Below w.heap.size w w'
def BoolEnds (w : World) (b : Bool) (e : Ending) (w' : World) : Prop := e = .returned (.bool b) ∧ Below w.heap.size w w'
theorem word_one (n : Nat) : (#[uw n, uw 0, uw 0, uw 0] : Array Value).all (·.oneCell') = true := by simp [Value.oneCell']
theorem word_row (n : Nat) (h : n < 18446744073709551616) : #[uw n, uw 0, uw 0, uw 0] = num n := (num_word n h).symm
set_option maxHeartbeats 1000000 in
theorem lof_any (n : Nat) (h : n < 18446744073709551616) (w : World) : Calls Try.prog 33 #[uw n] w (NumEnds w n) := by
  have HN := hide (num_word n h)
  clear h
  go_enter Try.func33, Try.ntmps33
  go_upto_region 1 with fail
  have C1 := Blk.new w 24 (num 0)
  have L1 : Below w.heap.size w (w.alloc (.cells (num 0) 24)) := (Below.refl _ _).alloc (Nat.le_refl _) _
  rw [num_zero] at C1 L1
  change Code.wp _ _ _ _ (w.alloc (.cells #[uw 0, uw 0, uw 0, uw 0] 24))
  generalize w.alloc (.cells #[uw 0, uw 0, uw 0, uw 0] 24) = w1 at *
  have HC := hide C1
  have HL := hide L1
  clear C1 L1
  go_wp2_with (first
    | (refine wpList_build_is rfl 24 _ #[uw n, uw 0, uw 0, uw 0] rfl (by kernel_rfl) ?_)
    | (refine wpList_store_row rfl 24 (.tmp 2) (.tmp 4) rfl w.heap.size #[uw n, uw 0, uw 0, uw 0] rfl rfl 24 _ HC.out info4 rfl (word_one n) ?_))
  have hS := HC.out.setRow #[uw n, uw 0, uw 0, uw 0]
  have hS2 := hS
  rw [← HN.out] at hS2
  rw [← HN.out]
  refine bodyPost_ret (results_num rfl rfl hS2) rfl ⟨rfl, below_setRow HL.out (Nat.le_refl _) _⟩
theorem info_u64 : (Try.prog.info? 22).map (fun i => (i.zero, i.size, i.bytes)) = some (some (.int .u64 0), 1, 8) := by kernel_rfl
theorem num_eqFrom {a b : Nat} (ha : a < big) (hb : b < big) : eqFrom (fun i => (wd a i : Int)) (fun i => (wd b i : Int)) 0 4 = decide (a = b) := by
  by_cases e : a = b
  · subst e
    rw [eqFrom_self, decide_eq_true rfl]
  · rw [decide_eq_false e, Bool.eq_false_iff]
    intro h2
    refine e (wd_inj ha hb fun i hi => ?_)
    have := eqFrom_true.1 h2 i hi
    rw [Nat.zero_add] at this
    exact Int.ofNat_inj.1 this
theorem num_eql (a b : Nat) (ha : a < big) (hb : b < big) (w : World) : (binOp .eql 24 (.agg (num a)) (.agg (num b))).run Try.prog w = .ok (.bool (decide (a = b))) w := by
  obtain ⟨i0, hi0, _, hi, _⟩ := info_parts info_u64
  have h := run_eql_ints 24 22 4 .u64 i0 (num a) (num b) (fun i => (wd a i : Int)) (fun i => (wd b i : Int)) Try.underlying24 Try.underlying22 hi0 hi (num_at a) (num_at b) w
  rw [h, num_eqFrom ha hb]
theorem num_neq (a b : Nat) (ha : a < big) (hb : b < big) (w : World) : (binOp .neq 24 (.agg (num a)) (.agg (num b))).run Try.prog w = .ok (.bool (!decide (a = b))) w := by
  obtain ⟨i0, hi0, _, hi, _⟩ := info_parts info_u64
  have h := run_neq_ints 24 22 4 .u64 i0 (num a) (num b) (fun i => (wd a i : Int)) (fun i => (wd b i : Int)) Try.underlying24 Try.underlying22 hi0 hi (num_at a) (num_at b) w
  rw [h, num_eqFrom ha hb]
def cmpN (a b : Nat) : Int := if a = b then 0 else if a < b then -1 else 1
set_option maxHeartbeats 1000000 in
theorem lcmp_any (a b : Nat) (ha : a < big) (hb : b < big) (w : World) : Calls Try.prog 75 #[.agg (num a), .agg (num b)] w (IntEnds w (cmpN a b)) := by
  obtain ⟨s, c, hc, hS⟩ : ∃ s c : Nat, (c = if a < b then 1 else 0) ∧ ∀ w, Calls Try.prog 54 #[.agg (num a), .agg (num b)] w (SumEnds w s c) := ⟨_, _, rfl, lsub_any a b ha hb⟩
  have HS := hide hS
  have HC := hide hc
  have heq := num_eql a b ha hb
  clear hS hc
  go_enter Try.func75, Try.ntmps75
  go_upto_region 1 with fail
  have A1 := (Blk.new w 24 (num a)).alloc (.cells (num b) 24)
  have B1 := Blk.new (w.alloc (.cells (num a) 24)) 24 (num b)
  have L1 : Below w.heap.size w ((w.alloc (.cells (num a) 24)).alloc (.cells (num b) 24)) := ((Below.refl _ _).alloc (Nat.le_refl _) _).alloc (by simp) _
  simp only [World.size_alloc] at B1
  change Code.wp _ _ _ _ ((w.alloc (.cells (num a) 24)).alloc (.cells (num b) 24))
  generalize (w.alloc (.cells (num a) 24)).alloc (.cells (num b) 24) = w1 at *
  have HA := hide A1
  have HB := hide B1
  have HL := hide L1
  clear A1 B1 L1 ha hb
  by_cases e : a = b
  · have he : decide (a = b) = true := decide_eq_true e
    have hr : cmpN a b = 0 := if_pos e
    rw [he] at heq
    have HZ := hide hr
    clear e he hr
    go_wp2_with (first
      | (refine wpList_load_row rfl 24 _ rfl w.heap.size rfl 24 (num a) (0, 0) _ HA.out Try.underlying24 rfl info4 ?_)
      | (refine wpList_load_row rfl 24 _ rfl (w.heap.size + 1) rfl 24 (num b) (0, 0) _ HB.out Try.underlying24 rfl info4 ?_))
    go_ret
    exact ⟨by rw [HZ.out]; rfl, HL.out⟩
  · have he : decide (a = b) = false := decide_eq_false e
    rw [he] at heq
    have hE := hide e
    clear e he
    go_wp2_with (first
      | (refine wpList_load_row rfl 24 _ rfl w.heap.size rfl 24 (num a) (0, 0) _ HA.out Try.underlying24 rfl info4 ?_)
      | (refine wpList_load_row rfl 24 _ rfl (w.heap.size + 1) rfl 24 (num b) (0, 0) _ HB.out Try.underlying24 rfl info4 ?_)
      | fail)
    with_reducible refine (HS.out _).mono ?_
    rintro e w2 ⟨rfl, L⟩
    have HL2 := hide (below_trans_grows HL.out L HL.out.size)
    clear L heq HS
    have L3 : Below w2.heap.size w2 ((w2.alloc (.cells #[uw 0, uw 0, uw 0, uw 0] 24)).setRow w2.heap.size (num s)) := below_setRow ((Below.refl _ _).alloc (Nat.le_refl _) _) (Nat.le_refl _) _
    have HL3 := hide (below_trans_grows HL2.out L3 HL2.out.size)
    clear L3
    have HB3 := hide (Blk.new w2 24 #[uw 0, uw 0, uw 0, uw 0])
    have e := hE.out
    by_cases h : a < b
    · have hz : cmpN a b = -1 := by unfold cmpN; rw [if_neg e, if_pos h]
      have HZ := hide hz
      obtain rfl : c = 1 := by rw [HC.out, if_pos h]
      clear hz h e
      go_wp2_with (refine wpList_store_row rfl 24 (.tmp 5) (.tmp 14) rfl w2.heap.size (num s) rfl rfl 24 _ HB3.out info4 rfl (num_one s) ?_)
      go_ret
      exact ⟨by rw [HZ.out]; rfl, HL3.out⟩
    · have hz : cmpN a b = 1 := by unfold cmpN; rw [if_neg e, if_neg h]
      have HZ := hide hz
      obtain rfl : c = 0 := by rw [HC.out, if_neg h]
      clear hz h e
      go_wp2_with (refine wpList_store_row rfl 24 (.tmp 5) (.tmp 14) rfl w2.heap.size (num s) rfl rfl 24 _ HB3.out info4 rfl (num_one s) ?_)
      go_ret
      exact ⟨by rw [HZ.out]; rfl, HL3.out⟩
end Go.Proofs.Ythdanjbgbbcafaa
