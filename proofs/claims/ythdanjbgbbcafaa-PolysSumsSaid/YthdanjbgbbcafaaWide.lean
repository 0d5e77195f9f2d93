/- divides.Wide by more than a word, and mods.word (printed by gen_wide.py). -/
import Derived.Test.YthdanjbgbbcafaaModB
namespace Go.Proofs.Ythdanjbgbbcafaa
open Go Go.RowKit

theorem word_law (a b m : Nat) (ha : a < m) (hb : b < m) (hm : m < 18446744073709551616) : a * b / 18446744073709551616 < m ∧ (a * b / 18446744073709551616 * 18446744073709551616 + a * b % 18446744073709551616) % m = a * b % m := by
  have h1 : a * b ≤ m * b := Nat.mul_le_mul_right _ (by omega)
  have h2 : m * b ≤ m * 18446744073709551615 := Nat.mul_le_mul_left _ (by omega)
  refine ⟨?_, by rw [Nat.mul_comm (_ / _), Nat.div_add_mod]⟩
  rw [Nat.div_lt_iff_lt_mul (by omega)]
  have h3 : m * 18446744073709551615 < m * 18446744073709551616 := Nat.mul_lt_mul_of_pos_left (by omega) (by omega)
  exact Nat.lt_of_le_of_lt (Nat.le_trans h1 h2) h3
set_option maxHeartbeats 1000000 in
theorem mword_any (a b m : Nat) (ha : a < m) (hb : b < m) (hm : m < 18446744073709551616) (w : World) : Calls Try.prog 76 #[uw a, uw b, uw m] w (WordEnds w (a * b % m)) := by
  obtain ⟨h1, h2⟩ := word_law a b m ha hb hm
  have hmul := fun w => mul64_any a b (by omega) (by omega) w
  obtain ⟨hi, e1⟩ : ∃ hi : Nat, hi = a * b / 18446744073709551616 := ⟨_, rfl⟩
  obtain ⟨lo, e2⟩ : ∃ lo : Nat, lo = a * b % 18446744073709551616 := ⟨_, rfl⟩
  have hlo : lo < 18446744073709551616 := by rw [e2]; exact Nat.mod_lt _ (by decide)
  rw [← e1, ← e2] at hmul h2
  rw [← e1] at h1
  have hdiv := fun w => div64_any hi lo m hlo hm h1 w
  rw [h2] at hdiv
  obtain ⟨r, er⟩ : ∃ r : Nat, r = a * b % m := ⟨_, rfl⟩
  rw [← er] at hdiv ⊢
  obtain ⟨q, eq⟩ : ∃ q : Nat, q = (hi * 18446744073709551616 + lo) / m := ⟨_, rfl⟩
  rw [← eq] at hdiv
  have HMUL := hide hmul
  have HDIV := hide hdiv
  clear hmul hdiv e1 e2 er eq h1 h2 hlo ha hb hm
  go_enter Try.func76, Try.ntmps76
  go_wp2_with fail
  with_reducible refine (HMUL.out _).mono ?_
  rintro e w1 ⟨rfl, rfl⟩
  go_wp2_with fail
  with_reducible refine (HDIV.out _).mono ?_
  rintro e w2 ⟨rfl, L⟩
  have HL := hide L
  clear L
  go_wp2_with fail
  go_ret
  exact ⟨rfl, HL.out⟩

/-- Two numbers in a row. -/
def row_two (h l : Nat) : Array Value := #[uw (wd h 0), uw (wd h 1), uw (wd h 2), uw (wd h 3), uw (wd l 0), uw (wd l 1), uw (wd l 2), uw (wd l 3)]
theorem index_two0 (h l : Nat) (w : World) : (Instr.index 37 (.agg (row_two h l)) (.int .i64 0)).run Try.prog w = .ok (.agg (num h)) w := by kernel_rfl
theorem index_two1 (h l : Nat) (w : World) : (Instr.index 37 (.agg (row_two h l)) (.int .i64 1)).run Try.prog w = .ok (.agg (num l)) w := by kernel_rfl
theorem built_two (h l : Nat) : Try.prog.built 37 [(0, .agg (num h)), (1, .agg (num l))] = some (row_two h l) := by kernel_rfl

/-- What is left of S and the k highest bits of a. -/
def wideR (S a m k : Nat) : Nat := (S * 2 ^ k + upb a (256 - k)) % m
theorem wideR_0 (S a m : Nat) (ha : a < big) : wideR S a m 0 = S % m := by
  unfold wideR
  rw [Nat.pow_zero, Nat.mul_one, Nat.sub_zero, upb_top (by rw [← big_pow]; exact ha), Nat.add_zero]
theorem wideR_256 (S a m : Nat) : wideR S a m 256 = (S * big + a) % m := by
  unfold wideR
  rw [Nat.sub_self, upb_0, big_pow]
theorem wideR_step (S a m k : Nat) (hk : k < 256) : (2 * wideR S a m k + a / 2 ^ (255 - k) % 2) % m = wideR S a m (k + 1) := by
  have h := upb_step a (255 - k)
  rw [show 255 - k + 1 = 256 - k by omega] at h
  have h2 := bit_mod (wideR S a m k) (S * 2 ^ k + upb a (256 - k)) (a / 2 ^ (255 - k) % 2) m rfl
  rw [h2]
  unfold wideR
  rw [show 256 - (k + 1) = 255 - k by omega, h, Nat.pow_succ, ← Nat.mul_assoc]
  congr 1
  omega
structure WideMem (w : World) (l h m r : Nat) (t24 : TypeId) (wr : World) : Prop where
  below : Below w.heap.size w wr
  A : Blk wr w.heap.size t24 (num l)
  B : Blk wr (w.heap.size + 1) t24 (num h)
  M : Blk wr (w.heap.size + 1 + 1) t24 (num m)
  R : Blk wr (w.heap.size + 1 + 1 + 1) t24 (num r)
theorem WideMem.grow {w wr w' : World} {l h m r : Nat} {t24 : TypeId} (H : WideMem w l h m r t24 wr) (hb : Grows wr w') : WideMem w l h m r t24 w' :=
  ⟨below_trans_grows H.below hb H.below.size, H.A.below hb H.A.lt, H.B.below hb H.B.lt, H.M.below hb H.M.lt, H.R.below hb H.R.lt⟩
def OutRel (w : World) (l h m : Nat) (t24 : TypeId) (vi : Value) (wr : World) : Prop :=
  ∃ r : Nat, (vi = .int .i64 0 ∧ r = 0 ∨ vi = .int .i64 1 ∧ r = h % m ∨ vi = .int .i64 2 ∧ r = (h * big + l) % m) ∧ WideMem w l h m r t24 wr
def InRel (w : World) (l h m : Nat) (t24 : TypeId) (S a g : Nat) (vi : Value) (wr : World) : Prop :=
  ∃ k : Nat, k ≤ 256 ∧ vi = .int .i64 (k : Nat) ∧ WideMem w l h m (wideR S a m k) t24 wr ∧ Blk wr g t24 (num a)
set_option maxRecDepth 100000 in
set_option maxHeartbeats 4000000 in
theorem wide_any (l h m : Nat) (hl : l < big) (hh : h < big) (hm0 : 18446744073709551616 ≤ m) (hm : m < big) (w : World) : Calls Try.prog 78 #[.agg (num l), .agg (num h), .agg (num m)] w (MayEnds w ((h * big + l) % m) 0) := by
  have heq := eql_nought m hm
  rw [decide_eq_false (by omega)] at heq
  have hsh := fun w => short_any m hm w
  have hns : isShort m = false := by
    cases h : isShort m with
    | false => rfl
    | true => have := (isShort_spec m).1 h; omega
  rw [hns] at hsh
  have HSH := hide hsh
  have HM0 : Keep (0 < m) := ⟨by omega⟩
  have HMB := hide hm
  have HL := hide hl
  have HH := hide hh
  clear hsh hns hm0 hm hl hh
  go_enter Try.func78, Try.ntmps78
  go_upto_region 1 with fail
  have M0 := ThreeMem.start w l h m 24 nought num_zero.symm
  change Code.wp _ _ _ _ ((((w.alloc (.cells (num l) 24)).alloc (.cells (num h) 24)).alloc (.cells (num m) 24)).alloc (.cells nought 24))
  generalize (((w.alloc (.cells (num l) 24)).alloc (.cells (num h) 24)).alloc (.cells (num m) 24)).alloc (.cells nought 24) = w1 at *
  have HM : Keep (WideMem w l h m 0 24 w1) := ⟨⟨M0.below, M0.A, M0.B, M0.M, M0.R⟩⟩
  clear M0
  go_wp2_with (first | (refine wpList_load_row rfl 24 _ rfl (w.heap.size + 1 + 1) rfl 24 (num m) (0, 0) _ HM.out.M Try.underlying24 rfl info4 ?_) | fail)
  with_reducible refine (HSH.out _).mono ?_
  rintro e w2 ⟨rfl, L⟩
  have HM2 := hide (HM.out.grow L)
  clear L HM HSH heq
  go_wp2_with (first | (refine wpList_load_row rfl 24 _ rfl (w.heap.size + 1) rfl 24 (num h) (0, 0) _ HM2.out.B Try.underlying24 rfl info4 ?_) | (refine wpList_load_row rfl 24 _ rfl (w.heap.size) rfl 24 (num l) (0, 0) _ HM2.out.A Try.underlying24 rfl info4 ?_) | (refine wpList_build_is rfl 37 _ (row_two h l) rfl (by kernel_rfl) ?_))
  go_loopw [44] (fun vi wr => OutRel w l h m 24 vi wr) (fun i _ => 2 - (intOf i).toNat)
  case atStart => exact ⟨0, .inl ⟨rfl, rfl⟩, HM2.out⟩
  case round =>
    clear HM2
    obtain ⟨r, hc, M⟩ := hrel
    have HM := hide M
    clear M
    rcases hc with ⟨rfl, hr⟩ | ⟨rfl, hr⟩ | ⟨rfl, hr⟩
    · have hidx := index_two0 h l
      go_wp2_with (first | (refine wpList_store_row rfl 24 (.tmp 12) (.tmp 46) rfl (wr.heap.size) (num h) rfl rfl 24 _ (Blk.new _ _ nought) info4 rfl (num_one _) ?_))
      clear hidx
      obtain ⟨R0, L0⟩ := num_box wr 24 (num h)
      have HM1 := hide (HM.out.grow L0)
      have hgr := HM.out.R.lt
      change Code.wp _ _ _ _ ((wr.alloc (.cells nought 24)).setRow wr.heap.size (num h))
      generalize (wr.alloc (.cells nought 24)).setRow wr.heap.size (num h) = w3 at *
      obtain ⟨g, hg⟩ : ∃ g : Nat, g = wr.heap.size := ⟨_, rfl⟩
      rw [← hg] at R0 hgr ⊢
      have HR0 := hide R0
      have HG := hide hg
      clear L0 R0 hg HM
      have HST : Keep (WideMem w l h m (wideR 0 h m 0) 24 w3) := ⟨by rw [wideR_0 _ _ _ HH.out]; have h1 := HM1.out; rw [hr] at h1; rw [Nat.zero_mod]; exact h1⟩
      clear HM1 hr
      go_loopw [47] (fun vi wr => InRel w l h m 24 0 h g vi wr) (fun i _ => 256 - (intOf i).toNat)
      case atStart => exact ⟨0, by omega, rfl, HST.out, HR0.out⟩
      case round =>
        clear HST HR0
        obtain ⟨k, hk, rfl, M, BX⟩ := hrel
        have HM := hide M
        have HX := hide BX
        clear M BX
        by_cases hk256 : k < 256
        · have hbit := fun w => lbit_any h (255 - k) (by omega) w
          have hrm : wideR 0 h m k < m := Nat.mod_lt _ HM0.out
          have hnext := fun w => next_any (wideR 0 h m k) (h / 2 ^ (255 - k) % 2) m hrm HMB.out (by omega) w
          rw [wideR_step _ _ _ _ hk256] at hnext
          obtain ⟨r1, e1⟩ : ∃ r1 : Nat, r1 = wideR 0 h m k := ⟨_, rfl⟩
          obtain ⟨r2, e2⟩ : ∃ r2 : Nat, r2 = wideR 0 h m (k + 1) := ⟨_, rfl⟩
          obtain ⟨t, e3⟩ : ∃ t : Nat, t = h / 2 ^ (255 - k) % 2 := ⟨_, rfl⟩
          rw [← e1, ← e2, ← e3] at hnext
          obtain ⟨s, e4⟩ : ∃ s : Nat, s = (2 * r1 + t) / m := ⟨_, rfl⟩
          rw [← e4] at hnext
          rw [← e3] at hbit
          have M := HM.out
          rw [← e1] at M
          have HM := hide M
          have HR2 := hide e2
          have hki : (255 : Int) - (k : Int) = ((255 - k : Nat) : Int) := by omega
          obtain ⟨i, ei⟩ : ∃ i : Nat, i = 255 - k := ⟨_, rfl⟩
          rw [← ei] at hbit hki
          have HBIT := hide hbit
          have HNEXT := hide hnext
          clear hbit hnext hrm e1 e2 e3 e4 ei M
          have lx := load_butN (rows := [w.heap.size + 1 + 1 + 1]) HX.out.drew (notin1 (by omega))
          have lm := load_butN (rows := [w.heap.size + 1 + 1 + 1]) HM.out.M.drew (notin1 (by omega))
          go_wp2_with fail
          refine wp_region_kindsR [w.heap.size + 1 + 1 + 1] [effRow 10 (w.heap.size + 1 + 1 + 1) 24 (num r1) (num r2)] (by kernel_rfl) (by kernel_rfl) (effs_row HM.out.R.drew) rfl (fun F hF => ?_)
          repeat (first
            | refine kindsR_move_is _ rfl rfl (Or.inl rfl) rfl ?_
            | refine kindsR_move_is _ rfl rfl (Or.inr rfl) rfl ?_
            | refine kindsR_preload 6 24 (effRow 10 (w.heap.size + 1 + 1 + 1) 24 (num r1) (num r2)) (List.Mem.head _) (by kernel_rfl) rfl rfl rfl rfl (fun w' h => load_numN h) ?_
            | refine kindsR_load 12 24 rfl rfl rfl rfl lx ?_
            | refine kindsR_load 5 24 rfl rfl rfl rfl lm ?_
            | refine kindsR_row 6 58 24 (w.heap.size + 1 + 1 + 1) 24 (num r1) (num r2) rfl rfl rfl rfl rfl (List.Mem.head _) (List.Mem.head _) info4 rfl (num_one _) ?_
            | (apply kindsR_is rfl rfl
               · intro ρ wv K hw hf hK
                 first | obtain ⟨e0, e1, e2, e3, e4, e5, e6, -⟩ := hf | obtain ⟨e0, e1, e2, e3, e4, e5, -⟩ := hf | obtain ⟨e0, e1, e2, e3, e4, -⟩ := hf | obtain ⟨e0, e1, e2, e3, -⟩ := hf | obtain ⟨e0, e1, e2, -⟩ := hf | obtain ⟨e0, e1, -⟩ := hf | obtain ⟨e0, -⟩ := hf | clear hf
                 (try change ρ _ = _ at e0)
                 (try change ρ _ = _ at e1)
                 (try change ρ _ = _ at e2)
                 (try change ρ _ = _ at e3)
                 unfold gives
                 go_simp
                 first
                   | (change Calls _ _ _ _ _; (go_at_call 82; (with_reducible refine (HBIT.out _).mono ?_); rintro e w' ⟨rfl, hb⟩; exact ⟨_, rfl, hK _ hb⟩))
                   | (change Calls _ _ _ _ _; (go_at_call 81; (with_reducible refine (HNEXT.out _).mono ?_); rintro e w' ⟨rfl, hb⟩; exact ⟨_, rfl, hK _ hb⟩))
                   | ((try go_ints); (try rw [if_pos (by omega)]); exact hK _ (Grows.refl _))))
          refine kindsR_nil (hF _ rfl rfl (fun ww hg hfx => ?_))
          clear hF F
          simp only [pushSlot, finish, Act.put, List.setIfInBounds_toArray, List.set_cons_succ, List.set_cons_zero]
          have D1 : Blk ww (w.heap.size + 1 + 1 + 1) 24 (num r2) := hfx _ (List.Mem.head _)
          rw [HR2.out] at D1
          have L1 := But.below HM.out.below.drew hg HM.out.below.size (by simp; omega)
          have A1 := HM.out.A.drew.but hg (notin1 (by omega))
          have B1 := HM.out.B.drew.but hg (notin1 (by omega))
          have M1 := HM.out.M.drew.but hg (notin1 (by omega))
          have X1 := hide (HX.out.drew.but hg (notin1 (by omega)))
          have HM1 := hide (WideMem.mk L1 A1 B1 M1 D1)
          clear hg hfx D1 L1 A1 B1 M1 lx lm HBIT HNEXT HM HX hki
          go_wp2_with fail
          go_roundw
          case rel => exact ⟨k + 1, by omega, by go_num, HM1.out, X1.out⟩
          case measure => simp [intOf]; omega
        · obtain rfl : k = 256 := by omega
          have M := HM.out
          rw [wideR_256] at M
          have HM := hide M
          clear M
          go_wp2_with fail
          go_roundw
          case rel => exact ⟨_, .inr (.inl ⟨rfl, by rw [Nat.zero_mul, Nat.zero_add]⟩), HM.out⟩
          case measure => simp [intOf]
    · have hidx := index_two1 h l
      go_wp2_with (first | (refine wpList_store_row rfl 24 (.tmp 12) (.tmp 46) rfl (wr.heap.size) (num l) rfl rfl 24 _ (Blk.new _ _ nought) info4 rfl (num_one _) ?_))
      clear hidx
      obtain ⟨R0, L0⟩ := num_box wr 24 (num l)
      have HM1 := hide (HM.out.grow L0)
      have hgr := HM.out.R.lt
      change Code.wp _ _ _ _ ((wr.alloc (.cells nought 24)).setRow wr.heap.size (num l))
      generalize (wr.alloc (.cells nought 24)).setRow wr.heap.size (num l) = w3 at *
      obtain ⟨g, hg⟩ : ∃ g : Nat, g = wr.heap.size := ⟨_, rfl⟩
      rw [← hg] at R0 hgr ⊢
      have HR0 := hide R0
      have HG := hide hg
      clear L0 R0 hg HM
      have HST : Keep (WideMem w l h m (wideR h l m 0) 24 w3) := ⟨by rw [wideR_0 _ _ _ HL.out]; have h1 := HM1.out; rw [hr] at h1; exact h1⟩
      clear HM1 hr
      go_loopw [47] (fun vi wr => InRel w l h m 24 h l g vi wr) (fun i _ => 256 - (intOf i).toNat)
      case atStart => exact ⟨0, by omega, rfl, HST.out, HR0.out⟩
      case round =>
        clear HST HR0
        obtain ⟨k, hk, rfl, M, BX⟩ := hrel
        have HM := hide M
        have HX := hide BX
        clear M BX
        by_cases hk256 : k < 256
        · have hbit := fun w => lbit_any l (255 - k) (by omega) w
          have hrm : wideR h l m k < m := Nat.mod_lt _ HM0.out
          have hnext := fun w => next_any (wideR h l m k) (l / 2 ^ (255 - k) % 2) m hrm HMB.out (by omega) w
          rw [wideR_step _ _ _ _ hk256] at hnext
          obtain ⟨r1, e1⟩ : ∃ r1 : Nat, r1 = wideR h l m k := ⟨_, rfl⟩
          obtain ⟨r2, e2⟩ : ∃ r2 : Nat, r2 = wideR h l m (k + 1) := ⟨_, rfl⟩
          obtain ⟨t, e3⟩ : ∃ t : Nat, t = l / 2 ^ (255 - k) % 2 := ⟨_, rfl⟩
          rw [← e1, ← e2, ← e3] at hnext
          obtain ⟨s, e4⟩ : ∃ s : Nat, s = (2 * r1 + t) / m := ⟨_, rfl⟩
          rw [← e4] at hnext
          rw [← e3] at hbit
          have M := HM.out
          rw [← e1] at M
          have HM := hide M
          have HR2 := hide e2
          have hki : (255 : Int) - (k : Int) = ((255 - k : Nat) : Int) := by omega
          obtain ⟨i, ei⟩ : ∃ i : Nat, i = 255 - k := ⟨_, rfl⟩
          rw [← ei] at hbit hki
          have HBIT := hide hbit
          have HNEXT := hide hnext
          clear hbit hnext hrm e1 e2 e3 e4 ei M
          have lx := load_butN (rows := [w.heap.size + 1 + 1 + 1]) HX.out.drew (notin1 (by omega))
          have lm := load_butN (rows := [w.heap.size + 1 + 1 + 1]) HM.out.M.drew (notin1 (by omega))
          go_wp2_with fail
          refine wp_region_kindsR [w.heap.size + 1 + 1 + 1] [effRow 10 (w.heap.size + 1 + 1 + 1) 24 (num r1) (num r2)] (by kernel_rfl) (by kernel_rfl) (effs_row HM.out.R.drew) rfl (fun F hF => ?_)
          repeat (first
            | refine kindsR_move_is _ rfl rfl (Or.inl rfl) rfl ?_
            | refine kindsR_move_is _ rfl rfl (Or.inr rfl) rfl ?_
            | refine kindsR_preload 6 24 (effRow 10 (w.heap.size + 1 + 1 + 1) 24 (num r1) (num r2)) (List.Mem.head _) (by kernel_rfl) rfl rfl rfl rfl (fun w' h => load_numN h) ?_
            | refine kindsR_load 12 24 rfl rfl rfl rfl lx ?_
            | refine kindsR_load 5 24 rfl rfl rfl rfl lm ?_
            | refine kindsR_row 6 58 24 (w.heap.size + 1 + 1 + 1) 24 (num r1) (num r2) rfl rfl rfl rfl rfl (List.Mem.head _) (List.Mem.head _) info4 rfl (num_one _) ?_
            | (apply kindsR_is rfl rfl
               · intro ρ wv K hw hf hK
                 first | obtain ⟨e0, e1, e2, e3, e4, e5, e6, -⟩ := hf | obtain ⟨e0, e1, e2, e3, e4, e5, -⟩ := hf | obtain ⟨e0, e1, e2, e3, e4, -⟩ := hf | obtain ⟨e0, e1, e2, e3, -⟩ := hf | obtain ⟨e0, e1, e2, -⟩ := hf | obtain ⟨e0, e1, -⟩ := hf | obtain ⟨e0, -⟩ := hf | clear hf
                 (try change ρ _ = _ at e0)
                 (try change ρ _ = _ at e1)
                 (try change ρ _ = _ at e2)
                 (try change ρ _ = _ at e3)
                 unfold gives
                 go_simp
                 first
                   | (change Calls _ _ _ _ _; (go_at_call 82; (with_reducible refine (HBIT.out _).mono ?_); rintro e w' ⟨rfl, hb⟩; exact ⟨_, rfl, hK _ hb⟩))
                   | (change Calls _ _ _ _ _; (go_at_call 81; (with_reducible refine (HNEXT.out _).mono ?_); rintro e w' ⟨rfl, hb⟩; exact ⟨_, rfl, hK _ hb⟩))
                   | ((try go_ints); (try rw [if_pos (by omega)]); exact hK _ (Grows.refl _))))
          refine kindsR_nil (hF _ rfl rfl (fun ww hg hfx => ?_))
          clear hF F
          simp only [pushSlot, finish, Act.put, List.setIfInBounds_toArray, List.set_cons_succ, List.set_cons_zero]
          have D1 : Blk ww (w.heap.size + 1 + 1 + 1) 24 (num r2) := hfx _ (List.Mem.head _)
          rw [HR2.out] at D1
          have L1 := But.below HM.out.below.drew hg HM.out.below.size (by simp; omega)
          have A1 := HM.out.A.drew.but hg (notin1 (by omega))
          have B1 := HM.out.B.drew.but hg (notin1 (by omega))
          have M1 := HM.out.M.drew.but hg (notin1 (by omega))
          have X1 := hide (HX.out.drew.but hg (notin1 (by omega)))
          have HM1 := hide (WideMem.mk L1 A1 B1 M1 D1)
          clear hg hfx D1 L1 A1 B1 M1 lx lm HBIT HNEXT HM HX hki
          go_wp2_with fail
          go_roundw
          case rel => exact ⟨k + 1, by omega, by go_num, HM1.out, X1.out⟩
          case measure => simp [intOf]; omega
        · obtain rfl : k = 256 := by omega
          have M := HM.out
          rw [wideR_256] at M
          have HM := hide M
          clear M
          go_wp2_with fail
          go_roundw
          case rel => exact ⟨_, .inr (.inr ⟨rfl, rfl⟩), HM.out⟩
          case measure => simp [intOf]
    · have HR := hide hr
      clear hr
      go_wp2_with (first | (refine wpList_load_row rfl 24 _ rfl (w.heap.size + 1 + 1 + 1) rfl 24 (num r) (0, 0) _ HM.out.R Try.underlying24 rfl info4 ?_) | (refine wpList_store_row rfl 24 (.tmp 6) (.tmp 62) rfl (w.heap.size + 1 + 1 + 1) (num r) rfl rfl 24 _ (HM.out.R) info4 rfl (num_one _) ?_))
      have hS := HM.out.R.setRow (num r)
      exact bodyPost_ret (results_num_tmp rfl rfl hS) rfl ⟨by rw [← HR.out]; rfl, below_setRow HM.out.below (by omega) _⟩
end Go.Proofs.Ythdanjbgbbcafaa
