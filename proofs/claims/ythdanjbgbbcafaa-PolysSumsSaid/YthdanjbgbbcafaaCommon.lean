/- The greatest that divides both: walked. -/
import Derived.Test.YthdanjbgbbcafaaDivC
import Derived.WalkMore
namespace Go.Proofs.Ythdanjbgbbcafaa
open Go Go.RowKit

theorem div_some (a b : Nat) (ha : a < big) (hb : b < big) (h0 : 0 < b) (w : World) : Calls Try.prog 60 #[.agg (num a), .agg (num b)] w (DivEnds w (a / b) (a % b) 0) := by
  by_cases h : b < 18446744073709551616
  · exact div_word a b ha h0 h w
  · exact div_long a b ha (by omega) hb w
theorem ofw_congr {f g : Nat → Nat} (h : ∀ i, i < 4 → f i = g i) : ofw f = ofw g := by
  unfold ofw
  rw [h 0 (by omega), h 1 (by omega), h 2 (by omega), h 3 (by omega)]
/-- What stands in a block. -/
def numOf (w : World) (g : Nat) : Nat :=
  match w.heap[g]? with
  | some (.cells cs _ _) => ofw (fun i => (intOf (cs.getD i undef)).toNat)
  | _ => 0
theorem numOf_is {w : World} {g : Nat} {t : TypeId} {n : Nat} (B : Blk w g t (num n)) (hn : n < big) : numOf w g = n := by
  unfold numOf
  unfold Blk at B
  rw [B]
  show ofw _ = n
  have e : ofw (fun i => (intOf ((num n).getD i undef)).toNat) = ofw (wd n) := by
    have h : ∀ i, i < 4 → (intOf ((num n).getD i undef)).toNat = wd n i := fun i hi => by
      rw [Array.getD_eq_getD_getElem?, num_at n i hi]
      simp [intOf]
    exact ofw_congr h
  rw [e, ofw_wd hn]
theorem boxes_two (w : World) (t : TypeId) (r1 r2 : Array Value) : Blk ((w.alloc (.cells nought t)).alloc (.cells nought t)) w.heap.size t nought ∧ Blk (((w.alloc (.cells nought t)).alloc (.cells nought t)).setRow w.heap.size r1) (w.heap.size + 1) t nought ∧
    Blk ((((w.alloc (.cells nought t)).alloc (.cells nought t)).setRow w.heap.size r1).setRow (w.heap.size + 1) r2) w.heap.size t r1 ∧ Blk ((((w.alloc (.cells nought t)).alloc (.cells nought t)).setRow w.heap.size r1).setRow (w.heap.size + 1) r2) (w.heap.size + 1) t r2 ∧
    Below w.heap.size w ((((w.alloc (.cells nought t)).alloc (.cells nought t)).setRow w.heap.size r1).setRow (w.heap.size + 1) r2) := by
  have h1 := (Blk.new w t nought).alloc (.cells nought t)
  have h2 := Blk.new (w.alloc (.cells nought t)) t nought
  simp only [World.size_alloc] at h2
  have h3 := h2.setRow_far (g' := w.heap.size) (by omega) r1
  exact ⟨h1, h3, (h1.setRow r1).setRow_far (by omega) r2, h3.setRow r2, below_setRow (below_setRow (((Below.refl _ _).alloc (Nat.le_refl _) _).alloc (by simp) _) (Nat.le_refl _) _) (by omega) _⟩
def GcdRel (w : World) (d : Nat) (t24 : TypeId) (wr : World) : Prop :=
  ∃ a b : Nat, a < big ∧ b < big ∧ Nat.gcd a b = d ∧ Below w.heap.size w wr ∧ Blk wr w.heap.size t24 (num a) ∧ Blk wr (w.heap.size + 1) t24 (num b) ∧ Blk wr (w.heap.size + 1 + 1) t24 (num 0)
set_option maxRecDepth 100000 in
set_option maxHeartbeats 4000000 in
theorem common_any (a b : Nat) (ha : a < big) (hb : b < big) (w : World) : Calls Try.prog 59 #[.agg (num a), .agg (num b)] w (NumEnds w (Nat.gcd a b)) := by
  go_enter Try.func59, Try.ntmps59
  go_wp2_with fail
  have A1 := ((Blk.new w 24 (num a)).alloc (.cells (num b) 24)).alloc (.cells nought 24)
  have B1 := (Blk.new (w.alloc (.cells (num a) 24)) 24 (num b)).alloc (.cells nought 24)
  have C1 := Blk.new ((w.alloc (.cells (num a) 24)).alloc (.cells (num b) 24)) 24 nought
  have L1 : Below w.heap.size w (((w.alloc (.cells (num a) 24)).alloc (.cells (num b) 24)).alloc (.cells nought 24)) := (((Below.refl _ _).alloc (Nat.le_refl _) _).alloc (by simp) _).alloc (by simp; omega) _
  simp only [World.size_alloc] at B1 C1
  change Code.wp _ _ _ _ (((w.alloc (.cells (num a) 24)).alloc (.cells (num b) 24)).alloc (.cells nought 24))
  generalize ((w.alloc (.cells (num a) 24)).alloc (.cells (num b) 24)).alloc (.cells nought 24) = w1 at *
  have C1 : Blk w1 (w.heap.size + 1 + 1) 24 (num 0) := by rw [num_zero]; exact C1
  have HST : Keep (GcdRel w (Nat.gcd a b) 24 w1) := ⟨⟨a, b, ha, hb, rfl, L1, A1, B1, C1⟩⟩
  obtain ⟨d, hd⟩ : ∃ d : Nat, d = Nat.gcd a b := ⟨_, rfl⟩
  rw [← hd] at HST
  rw [← hd]
  clear A1 B1 C1 L1 ha hb hd
  go_step3
  go_wp2_with fail
  go_step3
  go_wp2_with fail
  go_loopw [] (fun wr => GcdRel w d 24 wr) (fun wr => numOf wr (w.heap.size + 1))
  case atStart => exact HST.out
  case round =>
    clear HST
    obtain ⟨a, b, ha, hb, hd, L, A, B, C⟩ := hrel
    have HL := hide L
    have HA := hide A
    have HB := hide B
    have HC := hide C
    have HD := hide hd
    have heq := eql_nought b hb
    clear L A B C hd
    by_cases h0 : b = 0
    · rw [decide_eq_true h0] at heq
      have HD2 : Keep (a = d) := ⟨by have := HD.out; rw [h0, Nat.gcd_zero_right] at this; exact this⟩
      clear h0
      go_wp2_with (first
        | (refine wpList_load_row rfl 24 _ rfl (w.heap.size + 1) rfl 24 (num b) (0, 0) _ HB.out Try.underlying24 rfl info4 ?_)
        | (refine wpList_load_row rfl 24 _ rfl w.heap.size rfl 24 (num a) (0, 0) _ HA.out Try.underlying24 rfl info4 ?_)
        | (refine wpList_store_row rfl 24 (.tmp 4) (.tmp 20) rfl (w.heap.size + 1 + 1) (num a) rfl rfl 24 _ HC.out info4 rfl (num_one _) ?_))
      have hS := HC.out.setRow (num a)
      try rw [Exit.noGoto_ret]
      exact bodyPost_ret (results_num rfl rfl hS) rfl ⟨by rw [← HD2.out]; rfl, below_setRow HL.out (by omega) _⟩
    · rw [decide_eq_false h0] at heq
      have hdiv := div_some a b ha hb (by omega)
      obtain ⟨q, r, hq, hr⟩ : ∃ q r : Nat, q = a / b ∧ r = a % b := ⟨_, _, rfl, rfl⟩
      rw [← hq, ← hr] at hdiv
      have hrb : r < b := by rw [hr]; exact Nat.mod_lt _ (by omega)
      have HD2 : Keep (Nat.gcd b r = d) := ⟨by rw [hr, ← HD.out, Nat.gcd_comm b (a % b), ← Nat.gcd_rec, Nat.gcd_comm]⟩
      have HDIV := hide hdiv
      have HBW := hide HB.out
      clear hq hr hdiv h0
      go_wp2_with (first
        | (refine wpList_load_row rfl 24 _ rfl (w.heap.size + 1) rfl 24 (num b) (0, 0) _ HB.out Try.underlying24 rfl info4 ?_)
        | (refine wpList_load_row rfl 24 _ rfl w.heap.size rfl 24 (num a) (0, 0) _ HA.out Try.underlying24 rfl info4 ?_)
        | fail)
      clear heq
      with_reducible refine (HDIV.out _).mono ?_
      rintro e w2 ⟨rfl, L⟩
      have HL2 := hide (below_trans_grows HL.out L HL.out.size)
      have HA2 := hide (HA.out.below L HA.out.lt)
      have HB2 := hide (HB.out.below L HB.out.lt)
      have HC2 := hide (HC.out.below L HC.out.lt)
      clear L HDIV HL HA HC
      have hsz := HC2.out.lt
      obtain ⟨b1, b2, b3, b4, b5⟩ := boxes_two w2 24 (num q) (num r)
      have HB1 := hide b1
      have HB22 := hide b2
      clear b1 b2
      go_wp2_with (first
        | (refine wpList_store_row rfl 24 (.tmp 5) (.tmp 15) rfl w2.heap.size (num q) rfl rfl 24 _ HB1.out info4 rfl (num_one _) ?_)
        | (refine wpList_store_row rfl 24 (.tmp 6) (.tmp 16) rfl (w2.heap.size + 1) (num r) rfl rfl 24 _ HB22.out info4 rfl (num_one _) ?_))
      change Code.wp _ _ _ _ ((((w2.alloc (.cells nought 24)).alloc (.cells nought 24)).setRow w2.heap.size (num q)).setRow (w2.heap.size + 1) (num r))
      generalize (((w2.alloc (.cells nought 24)).alloc (.cells nought 24)).setRow w2.heap.size (num q)).setRow (w2.heap.size + 1) (num r) = w3 at *
      have HL3 := hide (below_trans_grows HL2.out b5 HL2.out.size)
      have HA3 := hide (HA2.out.below b5 HA2.out.lt)
      have HB3 := hide (HB2.out.below b5 HB2.out.lt)
      have HC3 := hide (HC2.out.below b5 HC2.out.lt)
      have lr := load_butN (rows := [w.heap.size, w.heap.size + 1]) (Blk.drew b4) (notin2 (by omega) (by omega))
      clear b3 b4 b5 HB1 HB22 HL2 HA2 HB2 HC2 HB
      refine wp_region_kindsR [w.heap.size, w.heap.size + 1] [effRow 2 (w.heap.size) 24 (num a) (num b), effRow 3 (w.heap.size + 1) 24 (num b) (num r)] (by kernel_rfl) (by kernel_rfl) (effs_two (by decide) (by omega) HA3.out.drew HB3.out.drew) rfl (fun F hF => ?_)
      repeat (first
        | refine kindsR_move_is _ rfl rfl (Or.inl rfl) rfl ?_
        | refine kindsR_move_is _ rfl rfl (Or.inr rfl) rfl ?_
        | refine kindsR_preload 3 24 (effRow 3 (w.heap.size + 1) 24 (num b) (num r)) (List.Mem.tail _ (List.Mem.head _)) (by kernel_rfl) rfl rfl rfl rfl (fun w' h => load_numN h) ?_
        | refine kindsR_load 6 24 rfl rfl rfl rfl lr ?_
        | refine kindsR_row 2 18 24 (w.heap.size) 24 (num a) (num b) rfl rfl rfl rfl rfl (List.Mem.head _) (List.Mem.head _) info4 rfl (num_one _) ?_
        | refine kindsR_row 3 19 24 (w.heap.size + 1) 24 (num b) (num r) rfl rfl rfl rfl rfl (List.Mem.tail _ (List.Mem.head _)) (List.Mem.tail _ (List.Mem.head _)) info4 rfl (num_one _) ?_
        | (apply kindsR_is rfl rfl
           · intro ρ wv K hw hf hK
             first | obtain ⟨e0, e1, e2, e3, e4, e5, e6, -⟩ := hf | obtain ⟨e0, e1, e2, e3, e4, e5, -⟩ := hf | obtain ⟨e0, e1, e2, e3, e4, -⟩ := hf | obtain ⟨e0, e1, e2, e3, -⟩ := hf | obtain ⟨e0, e1, e2, -⟩ := hf | obtain ⟨e0, e1, -⟩ := hf | obtain ⟨e0, -⟩ := hf | clear hf
             (try change ρ _ = _ at e0)
             (try change ρ _ = _ at e1)
             (try change ρ _ = _ at e2)
             (try change ρ _ = _ at e3)
             unfold gives
             go_simp
             (try go_ints)
             (try rw [if_pos (by omega)])
             exact hK _ (Grows.refl _)))
      refine kindsR_nil (hF _ rfl rfl (fun ww hg hfx => ?_))
      clear hF F
      simp only [pushSlot, finish, Act.put, List.setIfInBounds_toArray, List.set_cons_succ, List.set_cons_zero]
      have A4 : Blk ww w.heap.size 24 (num b) := hfx _ (List.Mem.head _)
      have B4 : Blk ww (w.heap.size + 1) 24 (num r) := hfx _ (List.Mem.tail _ (List.Mem.head _))
      have L4 := But.below HL3.out.drew hg HL3.out.size (by simp)
      have C4 := HC3.out.drew.but hg (notin2 (by omega) (by omega))
      have HB0' := hide (show numOf ww (w.heap.size + 1) < numOf wr (w.heap.size + 1) by rw [numOf_is B4 (by omega), numOf_is HBW.out hb]; exact hrb)
      have HREL : Keep (GcdRel w d 24 ww) := ⟨⟨b, r, hb, by omega, HD2.out, L4, A4, B4, C4⟩⟩
      clear hg hfx A4 B4 L4 C4 lr
      go_wp2_with fail
      go_roundw
      case rel => exact HREL.out
      case measure => exact HB0'.out
end Go.Proofs.Ythdanjbgbbcafaa
