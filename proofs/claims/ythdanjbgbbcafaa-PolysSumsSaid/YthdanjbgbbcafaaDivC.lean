/- divides.Div, walked (printed by gen_divc.py). -/
import Derived.Test.YthdanjbgbbcafaaDivB
namespace Go.Proofs.Ythdanjbgbbcafaa
open Go Go.RowKit

theorem store_word {w : World} {g k : Nat} {t : TypeId} {cs : Array Value} {v0 : Value} (B : Blk w g t cs) (hk : cs[k]? = some v0) (v : Nat) : (Instr.storeAt 22 (.pointer (some ⟨g, k, none⟩)) (uw v)).run Try.prog w = .ok () (w.setCell ⟨g, k, none⟩ (uw v)) := by
  have hc := (B.cell k).trans hk
  have hz := B.frozen k
  go_simp
theorem load_word {w : World} {g k : Nat} {t : TypeId} {cs : Array Value} {v : Value} (B : Blk w g t cs) (hk : cs[k]? = some v) : (Instr.loadAt 22 (.pointer (some ⟨g, k, none⟩))).run Try.prog w = .ok v w := by
  have hc := (B.cell k).trans hk
  go_simp
theorem results_num2_tmp {fn : Func} {p q u : Tmp} (h : fn.results = #[.cell p 24, .cell q 24, .tmp u]) {tmps : Array Value} {w : World} {g g' : Nat} {t t' : TypeId} {f f' : Nat → Nat} (hp : tmps.getD p undef = .pointer (some ⟨g, 0, none⟩)) (hq : tmps.getD q undef = .pointer (some ⟨g', 0, none⟩)) (B : Blk w g t (wrow f)) (B' : Blk w g' t' (wrow f')) :
    (results fn tmps).run Try.prog w = .ok (.tuple #[.agg (wrow f), .agg (wrow f'), tmps.getD u undef]) w := by
  have hp' : tmps[p]?.getD undef = .pointer (some ⟨g, 0, none⟩) := by simpa using hp
  have hq' : tmps[q]?.getD undef = .pointer (some ⟨g', 0, none⟩) := by simpa using hq
  simp [results, h, hp', hq', asAddr, loadVar_num B, loadVar_num B']
def DivEnds (w : World) (q r : Nat) (c : Int) (e : Ending) (w' : World) : Prop := e = .returned (.tuple #[.agg (num q), .agg (num r), .int .i64 c]) ∧ Below w.heap.size w w'
structure DivMem (w : World) (a b : Nat) (t24 : TypeId) (fq : Nat → Nat) (r : Nat) (wr : World) : Prop where
  below : Below w.heap.size w wr
  A : Blk wr w.heap.size t24 (num a)
  B : Blk wr (w.heap.size + 1) t24 (num b)
  Q : Blk wr (w.heap.size + 1 + 1) t24 (wrow fq)
  R : Blk wr (w.heap.size + 1 + 1 + 1) t24 (num r)
theorem DivMem.start (w : World) (a b : Nat) (t24 : TypeId) (z : Array Value) (hz : z = num 0) : DivMem w a b t24 (wd 0) 0 ((((w.alloc (.cells (num a) t24)).alloc (.cells (num b) t24)).alloc (.cells z t24)).alloc (.cells z t24)) := by
  subst hz
  refine ⟨((((Below.refl _ _).alloc (Nat.le_refl _) _).alloc ?_ _).alloc ?_ _).alloc ?_ _, (((Blk.new w _ _).alloc _).alloc _).alloc _, ?_, ?_, ?_⟩
  · simp
  · simp; omega
  · simp; omega
  · have h := ((Blk.new (w.alloc (.cells (num a) t24)) t24 (num b)).alloc (.cells (num 0) t24)).alloc (.cells (num 0) t24)
    simp only [World.size_alloc] at h
    exact h
  · have h := (Blk.new ((w.alloc (.cells (num a) t24)).alloc (.cells (num b) t24)) t24 (num 0)).alloc (.cells (num 0) t24)
    simp only [World.size_alloc] at h
    exact h
  · have h := Blk.new (((w.alloc (.cells (num a) t24)).alloc (.cells (num b) t24)).alloc (.cells (num 0) t24)) t24 (num 0)
    simp only [World.size_alloc] at h
    exact h
theorem DivMem.grow {w wr w' : World} {a b : Nat} {t24 : TypeId} {fq : Nat → Nat} {r : Nat} (h : DivMem w a b t24 fq r wr) (hb : Grows wr w') : DivMem w a b t24 fq r w' :=
  ⟨below_trans_grows h.below hb h.below.size, h.A.below hb h.A.lt, h.B.below hb h.B.lt, h.Q.below hb h.Q.lt, h.R.below hb h.R.lt⟩
theorem DivMem.drew {w wr : World} {a b : Nat} {t24 : TypeId} {fq : Nat → Nat} {r : Nat} (h : DivMem w a b t24 fq r wr) : DivMem w a b t24 fq r wr.drew :=
  ⟨h.below.drew, h.A.drew, h.B.drew, h.Q.drew, h.R.drew⟩
def WordRel (w : World) (a b : Nat) (t24 : TypeId) (vi : Value) (wr : World) : Prop :=
  ∃ j : Nat, j ≤ 4 ∧ vi = .int .i64 ((j : Int) - 1) ∧ DivMem w a b t24 (hi_ (qWord a b) j) (upw a j % b) wr
def LongRel (w : World) (a b n : Nat) (t24 : TypeId) (vi : Value) (wr : World) : Prop :=
  ∃ (k : Nat), k ≤ n ∧ vi = .int .i64 (k : Nat) ∧ DivMem w a b t24 (wd (upb a (n - k) / b * 2 ^ (n - k))) (upb a (n - k) % b) wr
theorem eql_nought (b : Nat) (hb : b < big) (w : World) : (binOp .eql 24 (.agg (num b)) (.agg #[.int .u64 0, .int .u64 0, .int .u64 0, .int .u64 0])).run Try.prog w = .ok (.bool (decide (b = 0))) w := by
  have h := num_eql b 0 hb big_pos w
  have e : (#[.int .u64 0, .int .u64 0, .int .u64 0, .int .u64 0] : Array Value) = num 0 := num_zero.symm
  rw [e]; exact h
set_option maxRecDepth 100000 in
set_option maxHeartbeats 4000000 in
theorem div_zero (a b : Nat) (hb : b = 0) (w : World) : Calls Try.prog 60 #[.agg (num a), .agg (num b)] w (DivEnds w 0 0 1) := by
  have heq := eql_nought b (by rw [hb]; exact big_pos)
  rw [decide_eq_true hb] at heq
  clear hb
  go_enter Try.func60, Try.ntmps60
  go_upto_region 1 with fail
  have M := DivMem.start w a b 24 nought num_zero.symm
  change Code.wp _ _ _ _ ((((w.alloc (.cells (num a) 24)).alloc (.cells (num b) 24)).alloc (.cells nought 24)).alloc (.cells nought 24))
  generalize (((w.alloc (.cells (num a) 24)).alloc (.cells (num b) 24)).alloc (.cells nought 24)).alloc (.cells nought 24) = w1 at *
  have HM := hide M
  clear M
  go_wp2_with (first | (refine wpList_load_row rfl 24 _ rfl (w.heap.size + 1) rfl 24 (num b) (0, 0) _ HM.out.B Try.underlying24 rfl info4 ?_))
  clear heq
  refine wp_region_kindsR [w.heap.size + 1 + 1, w.heap.size + 1 + 1 + 1] [effRow 2 (w.heap.size + 1 + 1) 24 (num 0) (num 0), effRow 3 (w.heap.size + 1 + 1 + 1) 24 (num 0) (num 0)] (by kernel_rfl) (by kernel_rfl) (effs_two (by decide) (by omega) HM.out.Q.drew HM.out.R.drew) rfl (fun F hF => ?_)
  repeat (first
    | refine kindsR_move_is _ rfl rfl (Or.inl rfl) rfl ?_
    | refine kindsR_move_is _ rfl rfl (Or.inr rfl) rfl ?_
    | refine kindsR_preload 4 24 (effRow 2 (w.heap.size + 1 + 1) 24 (num 0) (num 0)) (List.Mem.head _) (by kernel_rfl) rfl rfl rfl rfl (fun w' h => load_num h) ?_
    | refine kindsR_preload 5 24 (effRow 3 (w.heap.size + 1 + 1 + 1) 24 (num 0) (num 0)) (List.Mem.tail _ (List.Mem.head _)) (by kernel_rfl) rfl rfl rfl rfl (fun w' h => load_num h) ?_
    | refine kindsR_row 4 16 24 (w.heap.size + 1 + 1) 24 (num 0) (num 0) rfl rfl rfl rfl rfl (List.Mem.head _) (List.Mem.head _) info4 rfl (wrow_one _) ?_
    | refine kindsR_row 5 17 24 (w.heap.size + 1 + 1 + 1) 24 (num 0) (num 0) rfl rfl rfl rfl rfl (List.Mem.tail _ (List.Mem.head _)) (List.Mem.tail _ (List.Mem.head _)) info4 rfl (wrow_one _) ?_
    | (apply kindsR_is rfl rfl
       · intro ρ wv K hw hf hK
         first | obtain ⟨e0, e1, e2, e3, e4, e5, e6, -⟩ := hf | obtain ⟨e0, e1, e2, e3, e4, e5, -⟩ := hf | obtain ⟨e0, e1, e2, e3, e4, -⟩ := hf | obtain ⟨e0, e1, e2, e3, -⟩ := hf | obtain ⟨e0, e1, e2, -⟩ := hf | obtain ⟨e0, e1, -⟩ := hf | obtain ⟨e0, -⟩ := hf | clear hf
         (try change ρ _ = _ at e0)
         (try change ρ _ = _ at e1)
         (try change ρ _ = _ at e2)
         (try change ρ _ = _ at e3)
         unfold gives
         go_simp
         (try go_ints)
         (try rw [if_pos (by omega)])
         exact hK _ (Grows.refl _)))
  refine kindsR_nil (hF _ rfl rfl (fun ww hg hfx => ?_))
  clear hF F
  simp only [pushSlot, finish, Act.put, List.setIfInBounds_toArray, List.set_cons_succ, List.set_cons_zero]
  have C1 : Blk ww (w.heap.size + 1 + 1) 24 (num 0) := hfx _ (List.Mem.head _)
  have D1 : Blk ww (w.heap.size + 1 + 1 + 1) 24 (num 0) := hfx _ (List.Mem.tail _ (List.Mem.head _))
  have L1 := But.below HM.out.below.drew hg HM.out.below.size (by simp; omega)
  clear hg hfx
  go_wp2_with fail
  exact bodyPost_ret (results_num2_tmp rfl rfl rfl C1 D1) rfl ⟨rfl, L1⟩
set_option maxRecDepth 100000 in
set_option maxHeartbeats 4000000 in
theorem div_word (a b : Nat) (ha : a < big) (hb0 : 0 < b) (hb : b < 18446744073709551616) (w : World) : Calls Try.prog 60 #[.agg (num a), .agg (num b)] w (DivEnds w (a / b) (a % b) 0) := by
  have hbb : b < big := by unfold big; omega
  have heq := eql_nought b hbb
  rw [decide_eq_false (by omega)] at heq
  have hsh := fun w => short_any b hbb w
  rw [(isShort_spec b).2 hb] at hsh
  have HSH := hide hsh
  have hqf : ∀ i, i < 4 → qWord a b i < 18446744073709551616 := fun i _ => qWord_lt a b i hb0
  have hq := wrow_num hqf
  rw [word_quo ha hb0] at hq
  obtain ⟨q, eq, er⟩ : ∃ q : Nat × Nat, q.1 = a / b ∧ q.2 = a % b := ⟨(_, _), rfl, rfl⟩
  obtain ⟨q, r⟩ := q
  have er2 : r = upw a 0 % b := by rw [upw_0]; exact er
  simp only [] at eq er
  rw [← eq] at hq ⊢
  rw [← er]
  have HQ := hide hq
  have HER := hide er2
  have h4 : upw a 4 % b = 0 := by rw [upw_4 ha, Nat.zero_mod]
  have H4 := hide h4
  have HB0 := hide hb0
  clear hsh hbb hq hqf eq er er2 h4 ha hb0
  go_enter Try.func60, Try.ntmps60
  go_upto_region 1 with fail
  have M := DivMem.start w a b 24 nought num_zero.symm
  change Code.wp _ _ _ _ ((((w.alloc (.cells (num a) 24)).alloc (.cells (num b) 24)).alloc (.cells nought 24)).alloc (.cells nought 24))
  generalize (((w.alloc (.cells (num a) 24)).alloc (.cells (num b) 24)).alloc (.cells nought 24)).alloc (.cells nought 24) = w1 at *
  have HM := hide M
  clear M
  go_wp2_with (first | (refine wpList_load_row rfl 24 _ rfl (w.heap.size + 1) rfl 24 (num b) (0, 0) _ HM.out.B Try.underlying24 rfl info4 ?_) | fail)
  with_reducible refine (HSH.out _).mono ?_
  rintro e w2 ⟨rfl, L⟩
  have HM2 := hide (HM.out.grow L)
  clear L HM HSH heq
  go_wp2_with fail
  have hstart : DivMem w a b 24 (hi_ (qWord a b) 4) (upw a 4 % b) w2 := by
    have hQ := HM2.out.Q
    have hR := HM2.out.R
    rw [H4.out]
    exact ⟨HM2.out.below, HM2.out.A, HM2.out.B, by rw [hi_zero]; exact hQ, hR⟩
  have HST := hide hstart
  clear hstart HM2
  go_loopw [7] (fun vi wr => WordRel w a b 24 vi wr) (fun i _ => (intOf i + 1).toNat)
  case atStart => exact ⟨4, by omega, rfl, HST.out⟩
  case round =>
    clear HST
    obtain ⟨j, hj, rfl, M⟩ := hrel
    have HM := hide M
    clear M
    by_cases hj0 : j = 0
    · subst hj0
      have hQ := HM.out.Q
      have hR := HM.out.R
      rw [hi_full, HQ.out] at hQ
      rw [← HER.out] at hR
      have HM0 : Keep (DivMem w a b 24 (wd q) r wr) := ⟨⟨HM.out.below, HM.out.A, HM.out.B, hQ, hR⟩⟩
      clear hQ hR HM HER HQ
      have hneg : ((0 : Nat) : Int) - 1 = -1 := rfl
      rw [hneg]
      clear hneg
      go_wp2_with fail
      refine wp_region_kindsR [w.heap.size + 1 + 1, w.heap.size + 1 + 1 + 1] [effRow 2 (w.heap.size + 1 + 1) 24 (num q) (num q), effRow 3 (w.heap.size + 1 + 1 + 1) 24 (num r) (num r)] (by kernel_rfl) (by kernel_rfl) (effs_two (by decide) (by omega) HM0.out.Q.drew HM0.out.R.drew) rfl (fun F hF => ?_)
      repeat (first
        | refine kindsR_move_is _ rfl rfl (Or.inl rfl) rfl ?_
        | refine kindsR_move_is _ rfl rfl (Or.inr rfl) rfl ?_
        | refine kindsR_preload 4 24 (effRow 2 (w.heap.size + 1 + 1) 24 (num q) (num q)) (List.Mem.head _) (by kernel_rfl) rfl rfl rfl rfl (fun w' h => load_num h) ?_
        | refine kindsR_preload 5 24 (effRow 3 (w.heap.size + 1 + 1 + 1) 24 (num r) (num r)) (List.Mem.tail _ (List.Mem.head _)) (by kernel_rfl) rfl rfl rfl rfl (fun w' h => load_num h) ?_
        | refine kindsR_row 4 39 24 (w.heap.size + 1 + 1) 24 (num q) (num q) rfl rfl rfl rfl rfl (List.Mem.head _) (List.Mem.head _) info4 rfl (wrow_one _) ?_
        | refine kindsR_row 5 40 24 (w.heap.size + 1 + 1 + 1) 24 (num r) (num r) rfl rfl rfl rfl rfl (List.Mem.tail _ (List.Mem.head _)) (List.Mem.tail _ (List.Mem.head _)) info4 rfl (wrow_one _) ?_
        | (apply kindsR_is rfl rfl
           · intro ρ wv K hw hf hK
             first | obtain ⟨e0, e1, e2, e3, e4, e5, e6, -⟩ := hf | obtain ⟨e0, e1, e2, e3, e4, e5, -⟩ := hf | obtain ⟨e0, e1, e2, e3, e4, -⟩ := hf | obtain ⟨e0, e1, e2, e3, -⟩ := hf | obtain ⟨e0, e1, e2, -⟩ := hf | obtain ⟨e0, e1, -⟩ := hf | obtain ⟨e0, -⟩ := hf | clear hf
             (try change ρ _ = _ at e0)
             (try change ρ _ = _ at e1)
             (try change ρ _ = _ at e2)
             (try change ρ _ = _ at e3)
             unfold gives
             go_simp
             (try go_ints)
             (try rw [if_pos (by omega)])
             exact hK _ (Grows.refl _)))
      refine kindsR_nil (hF _ rfl rfl (fun ww hg hfx => ?_))
      clear hF F
      simp only [pushSlot, finish, Act.put, List.setIfInBounds_toArray, List.set_cons_succ, List.set_cons_zero]
      have C1 : Blk ww (w.heap.size + 1 + 1) 24 (num q) := hfx _ (List.Mem.head _)
      have D1 : Blk ww (w.heap.size + 1 + 1 + 1) 24 (num r) := hfx _ (List.Mem.tail _ (List.Mem.head _))
      have L1 := But.below HM0.out.below.drew hg HM0.out.below.size (by simp; omega)
      clear hg hfx
      go_wp2_with fail
      exact bodyPost_ret (results_num2_tmp rfl rfl rfl C1 D1) rfl ⟨rfl, L1⟩
    · obtain ⟨m, rfl⟩ : ∃ m, j = m + 1 := ⟨j - 1, by omega⟩
      have hm4 : m < 4 := by omega
      have hri : ((m + 1 : Nat) : Int) - 1 = (m : Int) := by omega
      rw [hri]
      clear hri
      have hRb : upw a (m + 1) % b < b := Nat.mod_lt _ HB0.out
      have hdiv := fun w => div64_any (upw a (m + 1) % b) (wd a m) b (wd_lt a m) hb hRb w
      rw [word_mod] at hdiv
      change ∀ w, Calls _ _ _ w (Div64Ends w (qWord a b m) _) at hdiv
      have hset := hi_set (qWord a b) m hm4
      have hr'b : upw a m % b < b := Nat.mod_lt _ HB0.out
      have hold := (wrow_at (hi_ (qWord a b) (m + 1)) m hm4)
      have hxa := num_at a m hm4
      obtain ⟨R, hR⟩ : ∃ R : Nat, R = upw a (m + 1) % b := ⟨_, rfl⟩
      obtain ⟨r', hr'⟩ : ∃ r' : Nat, r' = upw a m % b := ⟨_, rfl⟩
      obtain ⟨x, hx⟩ : ∃ x : Nat, x = wd a m := ⟨_, rfl⟩
      obtain ⟨qi, hqi⟩ : ∃ qi : Nat, qi = qWord a b m := ⟨_, rfl⟩
      obtain ⟨f, hf⟩ : ∃ f : Nat → Nat, f = hi_ (qWord a b) (m + 1) := ⟨_, rfl⟩
      obtain ⟨f', hf'⟩ : ∃ f' : Nat → Nat, f' = hi_ (qWord a b) m := ⟨_, rfl⟩
      have HF' := hide hf'
      have HR' := hide hr'
      rw [← hR] at hRb hdiv
      rw [← hr'] at hr'b hdiv
      rw [← hx] at hdiv hxa
      rw [← hqi] at hdiv hset
      rw [← hf] at hset hold
      rw [← hf'] at hset
      have M := HM.out
      rw [← hR, ← hf] at M
      have HM := hide M
      have hR0 : (num R)[0]? = some (uw R) := by rw [num_at R 0 (by omega), wd_small R (by omega)]
      have hRset := num_word_set R r' (by omega) (by omega)
      have hb0 : (num b)[0]? = some (uw b) := by rw [num_at b 0 (by omega), wd_small b hb]
      have HSET := hide hset
      have HRSET := hide hRset
      have HDIV := hide hdiv
      have HOLD := hide hold
      have HR0 := hide hR0
      have ga := cell_but (rows := [w.heap.size + 1 + 1, w.heap.size + 1 + 1 + 1]) HM.out.A.drew (notin2 (by omega) (by omega)) hxa
      have gb := cell_but (rows := [w.heap.size + 1 + 1, w.heap.size + 1 + 1 + 1]) HM.out.B.drew (notin2 (by omega) (by omega)) hb0
      clear hset hRset hdiv hold hR0 hR hr' hx hqi hf hf' M hxa hb0 hRb hr'b HER HQ H4
      have hm0 : (0 : Int) ≤ (m : Int) := by omega
      have hmi : (m : Int) < 4 := by omega
      go_wp2_with fail
      refine wp_region_kindsR [w.heap.size + 1 + 1, w.heap.size + 1 + 1 + 1] [effCell 13 (w.heap.size + 1 + 1) m 24 (wrow f) (uw qi), effCell 15 (w.heap.size + 1 + 1 + 1) 0 24 (num R) (uw r')] (by kernel_rfl) (by kernel_rfl) (effs_cells (by decide) (by omega) HM.out.Q.drew HM.out.R.drew) rfl (fun F hF => ?_)
      repeat (first
        | refine kindsR_move_is _ rfl rfl (Or.inl rfl) rfl ?_
        | refine kindsR_move_is _ rfl rfl (Or.inr rfl) rfl ?_
        | refine kindsR_preload 27 22 (effCell 15 (w.heap.size + 1 + 1 + 1) 0 24 (num R) (uw r')) (List.Mem.tail _ (List.Mem.head _)) (by kernel_rfl) rfl rfl rfl rfl (fun w' h => load_word h HR0.out) ?_
        | refine kindsR_cell 37 35 22 (w.heap.size + 1 + 1) m 24 (wrow f) (uw qi) rfl rfl rfl rfl rfl (List.Mem.head _) (List.Mem.head _) (fun w' h => store_word h HOLD.out qi) ?_
        | refine kindsR_cell 38 36 22 (w.heap.size + 1 + 1 + 1) 0 24 (num R) (uw r') rfl rfl rfl rfl rfl (List.Mem.tail _ (List.Mem.head _)) (List.Mem.tail _ (List.Mem.head _)) (fun w' h => store_word h HR0.out r') ?_
        | (apply kindsR_is rfl rfl
           · intro ρ wv K hw hf hK
             first | obtain ⟨e0, e1, e2, e3, e4, e5, e6, -⟩ := hf | obtain ⟨e0, e1, e2, e3, e4, e5, -⟩ := hf | obtain ⟨e0, e1, e2, e3, e4, -⟩ := hf | obtain ⟨e0, e1, e2, e3, -⟩ := hf | obtain ⟨e0, e1, e2, -⟩ := hf | obtain ⟨e0, e1, -⟩ := hf | obtain ⟨e0, -⟩ := hf | clear hf
             (try change ρ _ = _ at e0)
             (try change ρ _ = _ at e1)
             (try change ρ _ = _ at e2)
             (try change ρ _ = _ at e3)
             unfold gives
             go_simp
             first
               | (change Calls _ _ _ _ _; (go_at_call 80; (with_reducible refine (HDIV.out _).mono ?_); rintro e w' ⟨rfl, hb⟩; exact ⟨_, rfl, hK _ hb⟩))
               | ((try go_ints); (try rw [if_pos (by omega)]); exact hK _ (Grows.refl _))))
      refine kindsR_nil (hF _ rfl rfl (fun ww hg hfx => ?_))
      clear hF F
      simp only [pushSlot, finish, Act.put, List.setIfInBounds_toArray, List.set_cons_succ, List.set_cons_zero]
      have C1 : Blk ww (w.heap.size + 1 + 1) 24 ((wrow f).setIfInBounds m (uw qi)) := hfx _ (List.Mem.head _)
      have D1 : Blk ww (w.heap.size + 1 + 1 + 1) 24 ((num R).setIfInBounds 0 (uw r')) := hfx _ (List.Mem.tail _ (List.Mem.head _))
      rw [HSET.out] at C1
      rw [HRSET.out] at D1
      have L1 := But.below HM.out.below.drew hg HM.out.below.size (by simp; omega)
      have A1 := HM.out.A.drew.but hg (notin2 (by omega) (by omega))
      have B1 := HM.out.B.drew.but hg (notin2 (by omega) (by omega))
      rw [HR'.out] at D1
      rw [HF'.out] at C1
      have HM1 := hide (DivMem.mk L1 A1 B1 C1 D1)
      clear hg hfx C1 D1 L1 A1 B1 ga gb
      go_wp2_with fail
      go_roundw
      case rel => exact ⟨m, by omega, rfl, HM1.out⟩
      case measure => simp [intOf]
/-- One step of the long way, as numbers. -/
theorem long_step (a b i : Nat) (ha : a < big) (hb : 0 < b) (hi : i < 256) : ∃ q r t s x z y : Nat, q = upb a (i + 1) / b * 2 ^ (i + 1) ∧ r = upb a (i + 1) % b ∧ t = a / 2 ^ i % 2 ∧ r < b ∧ t ≤ 1 ∧ s = (2 * r + t) / b ∧ s ≤ 1 ∧ (2 * r + t) % b = upb a i % b ∧
    q + s * 2 ^ i = upb a i / b * 2 ^ i ∧ x = wd q (i / 64) ∧ z = s * 2 ^ (i % 64) ∧ y = x + z ∧ x < 18446744073709551616 ∧ z < 18446744073709551616 ∧ y < 18446744073709551616 ∧ bits .or .u64 (x : Int) (z : Int) = (y : Int) ∧ (num q).setIfInBounds (i / 64) (uw y) = num (q + s * 2 ^ i) := by
  have hst := upb_step a i
  have hq : upb a (i + 1) / b * 2 ^ (i + 1) < big := by
    have h1 : upb a (i + 1) / b * 2 ^ (i + 1) ≤ upb a (i + 1) * 2 ^ (i + 1) := Nat.mul_le_mul_right _ (Nat.div_le_self _ _)
    have h2 : upb a (i + 1) * 2 ^ (i + 1) ≤ a := Nat.div_mul_le_self _ _
    omega
  have ht : a / 2 ^ i % 2 ≤ 1 := by omega
  have hr : upb a (i + 1) % b < b := Nat.mod_lt _ hb
  have hs := bit_le _ _ b hr ht
  have hm := bit_mod (upb a (i + 1) % b) (upb a (i + 1)) (a / 2 ^ i % 2) b rfl
  have hd := bit_div (upb a (i + 1)) (a / 2 ^ i % 2) b hb
  rw [← hst] at hm hd
  obtain ⟨p1, p2, p3, p4⟩ := bit_put (upb a (i + 1) / b * 2 ^ (i + 1)) i ((2 * (upb a (i + 1) % b) + a / 2 ^ i % 2) / b) hq hi hs (Nat.mul_mod_left _ _)
  have hw := wd_lt (upb a (i + 1) / b * 2 ^ (i + 1)) (i / 64)
  refine ⟨_, _, _, _, _, _, _, rfl, rfl, rfl, hr, ht, rfl, hs, hm, ?_, rfl, rfl, rfl, hw, by omega, p3, or_put _ _ _ hw (by omega) p1 p2, p4⟩
  rw [hd, Nat.add_mul, Nat.pow_succ, Nat.mul_comm (2 ^ i) 2, ← Nat.mul_assoc, Nat.mul_comm _ 2]
theorem wrap_shl (s R z : Nat) (hz : z = s * 2 ^ R) (h : z < 18446744073709551616) : IntKind.u64.wrap ((s : Int) * 2 ^ R) = (z : Int) := by
  rw [show (s : Int) * 2 ^ R = ((s * 2 ^ R : Nat) : Int) by rw [Int.natCast_mul, Int.natCast_pow]; rfl, ← hz]
  exact Mul64.wrapN z h
theorem load_numN {w : World} {g : Nat} {t : TypeId} {n : Nat} (B : Blk w g t (num n)) : (Instr.loadAt 24 (.pointer (some ⟨g, 0, none⟩))).run Try.prog w = .ok (.agg (num n)) w := load_num B
theorem load_butN {rows : List Nat} {w : World} {g : Nat} {t : TypeId} {n : Nat} (B : Blk w g t (num n)) (hg : g ∉ rows) : ∀ w', But rows w w' → (Instr.loadAt 24 (.pointer (some ⟨g, 0, none⟩))).run Try.prog w' = .ok (.agg (num n)) w' :=
  fun _ h => load_num (B.but h hg)
theorem load_but {rows : List Nat} {w : World} {g : Nat} {t : TypeId} {f : Nat → Nat} (B : Blk w g t (wrow f)) (hg : g ∉ rows) : ∀ w', But rows w w' → (Instr.loadAt 24 (.pointer (some ⟨g, 0, none⟩))).run Try.prog w' = .ok (.agg (wrow f)) w' :=
  fun _ h => load_num (B.but h hg)
set_option maxRecDepth 100000 in
set_option maxHeartbeats 4000000 in
theorem div_long (a b : Nat) (ha : a < big) (hb0 : 18446744073709551616 ≤ b) (hb : b < big) (w : World) : Calls Try.prog 60 #[.agg (num a), .agg (num b)] w (DivEnds w (a / b) (a % b) 0) := by
  have heq := eql_nought b hb
  rw [decide_eq_false (by omega)] at heq
  have hsh := fun w => short_any b hb w
  have hns : isShort b = false := by
    cases h : isShort b with
    | false => rfl
    | true => have := (isShort_spec b).1 h; omega
  rw [hns] at hsh
  have HSH := hide hsh
  have hbits := fun w => lbits_any a ha w
  obtain ⟨n, hn⟩ : ∃ n : Nat, n = blen a := ⟨_, rfl⟩
  have hn256 : n ≤ 256 := by rw [hn]; exact blen_big a ha
  have htop : upb a n = 0 := upb_top (by rw [hn]; exact blen_lt a)
  rw [← hn] at hbits
  have HBITS := hide hbits
  have HTOP := hide htop
  have HB0 : Keep (0 < b) := ⟨by omega⟩
  have HA := hide ha
  have HB := hide hb
  clear hsh hns hbits htop hn ha hb hb0
  go_enter Try.func60, Try.ntmps60
  go_upto_region 1 with fail
  have M := DivMem.start w a b 24 nought num_zero.symm
  change Code.wp _ _ _ _ ((((w.alloc (.cells (num a) 24)).alloc (.cells (num b) 24)).alloc (.cells nought 24)).alloc (.cells nought 24))
  generalize (((w.alloc (.cells (num a) 24)).alloc (.cells (num b) 24)).alloc (.cells nought 24)).alloc (.cells nought 24) = w1 at *
  have HM := hide M
  clear M
  go_wp2_with (first | (refine wpList_load_row rfl 24 _ rfl (w.heap.size + 1) rfl 24 (num b) (0, 0) _ HM.out.B Try.underlying24 rfl info4 ?_) | fail)
  with_reducible refine (HSH.out _).mono ?_
  rintro e w2 ⟨rfl, L⟩
  have HM2 := hide (HM.out.grow L)
  clear L HM HSH heq
  have HM := HM2
  clear HM2
  go_wp2_with (first | (refine wpList_load_row rfl 24 _ rfl (w.heap.size) rfl 24 (num a) (0, 0) _ HM.out.A Try.underlying24 rfl info4 ?_) | fail)
  with_reducible refine (HBITS.out _).mono ?_
  rintro e w3 ⟨rfl, L⟩
  have HM2 := hide (HM.out.grow L)
  clear L HM HBITS
  go_wp2_with fail
  have HST : Keep (DivMem w a b 24 (wd (upb a (n - 0) / b * 2 ^ (n - 0))) (upb a (n - 0) % b) w3) := ⟨by
    rw [Nat.sub_zero, HTOP.out, Nat.zero_div, Nat.zero_mul, Nat.zero_mod]
    exact HM2.out⟩
  clear HM2
  go_loopw [44] (fun vi wr => LongRel w a b n 24 vi wr) (fun i _ => n - (intOf i).toNat)
  case atStart => exact ⟨0, by omega, rfl, HST.out⟩
  case round =>
    clear HST
    obtain ⟨k, hk, rfl, M⟩ := hrel
    have HM := hide M
    clear M
    by_cases hkn : k < n
    · obtain ⟨i, hi⟩ : ∃ i, n - k = i + 1 := ⟨n - k - 1, by omega⟩
      have hi256 : i < 256 := by omega
      have hbit := fun w => lbit_any a i hi256 w
      obtain ⟨q, r, t, s, x, z, y, e1, e2, e3, e4, e5, e6, e7, e8, e9, e10, e11, e12, e13, e14, e15, e16, e17⟩ := long_step a b i HA.out HB0.out hi256
      have hnext := fun w => next_any r t b e4 HB.out e5 w
      rw [← e3] at hbit
      rw [← e6, e8] at hnext
      have M := HM.out
      rw [hi, ← e1, ← e2] at M
      have HM := hide M
      have hold := num_at q (i / 64) (by omega)
      rw [← e10] at hold
      have hni : (n : Int) - 1 - (k : Int) = (i : Int) := by omega
      obtain ⟨Qi, hQi⟩ : ∃ Qi : Nat, Qi = i / 64 := ⟨_, rfl⟩
      obtain ⟨Ri, hRi⟩ : ∃ Ri : Nat, Ri = i % 64 := ⟨_, rfl⟩
      rw [← hQi] at hold e17
      rw [← hRi] at e11
      have hq4 : Qi < 4 := by omega
      have hr64 : Ri < 64 := by omega
      have hqi : (i : Int) / 64 = (Qi : Int) := by omega
      have hri : (i : Int) % 64 = (Ri : Int) := by omega
      have hsz := wrap_shl s Ri z e11 e14
      obtain ⟨r', hr'⟩ : ∃ r' : Nat, r' = upb a i % b := ⟨_, rfl⟩
      rw [← hr'] at hnext
      obtain ⟨q', hq'⟩ : ∃ q' : Nat, q' = q + s * 2 ^ i := ⟨_, rfl⟩
      rw [← hq'] at e17 e9
      have HSET := hide e17
      have HQ' := hide e9
      have HR' := hide hr'
      have HI := hide hi
      have HBIT := hide hbit
      have HNEXT := hide hnext
      have HOLD := hide hold
      have HOR := hide e16
      have HQI := hide hqi
      have HRI := hide hri
      have HSZ := hide hsz
      clear hbit hnext e1 e2 e3 e4 e6 e8 e9 e10 e11 e12 e16 e17 hold hQi hRi hqi hri hsz hr' hq' hi M
      have hik : i ≤ n := by have := HI.out; omega
      go_wp2_with fail
      have la := load_butN (rows := [w.heap.size + 1 + 1 + 1]) HM.out.A.drew (notin1 (by omega))
      have lb := load_butN (rows := [w.heap.size + 1 + 1 + 1]) HM.out.B.drew (notin1 (by omega))
      clear hni
      refine wp_region_kindsR [w.heap.size + 1 + 1 + 1] [effRow 9 (w.heap.size + 1 + 1 + 1) 24 (num r) (num r')] (by kernel_rfl) (by kernel_rfl) (effs_row HM.out.R.drew) rfl (fun F hF => ?_)
      repeat (first
        | refine kindsR_move_is _ rfl rfl (Or.inl rfl) rfl ?_
        | refine kindsR_move_is _ rfl rfl (Or.inr rfl) rfl ?_
        | refine kindsR_preload 5 24 (effRow 9 (w.heap.size + 1 + 1 + 1) 24 (num r) (num r')) (List.Mem.head _) (by kernel_rfl) rfl rfl rfl rfl (fun w' h => load_numN h) ?_
        | refine kindsR_load 2 24 rfl rfl rfl rfl la ?_
        | refine kindsR_load 3 24 rfl rfl rfl rfl lb ?_
        | refine kindsR_row 5 58 24 (w.heap.size + 1 + 1 + 1) 24 (num r) (num r') rfl rfl rfl rfl rfl (List.Mem.head _) (List.Mem.head _) info4 rfl (num_one _) ?_
        | (apply kindsR_is rfl rfl
           · intro ρ wv K hw hf hK
             first | obtain ⟨e0, e1, e2, e3, e4, e5, e6, -⟩ := hf | obtain ⟨e0, e1, e2, e3, e4, e5, -⟩ := hf | obtain ⟨e0, e1, e2, e3, e4, -⟩ := hf | obtain ⟨e0, e1, e2, e3, -⟩ := hf | obtain ⟨e0, e1, e2, -⟩ := hf | obtain ⟨e0, e1, -⟩ := hf | obtain ⟨e0, -⟩ := hf | clear hf
             (try change ρ _ = _ at e0)
             (try change ρ _ = _ at e1)
             (try change ρ _ = _ at e2)
             (try change ρ _ = _ at e3)
             unfold gives
             go_simp
             first
               | (change Calls _ _ _ _ _; (go_at_call 82; (with_reducible refine (HBIT.out _).mono ?_); rintro e w' ⟨rfl, hb⟩; exact ⟨_, rfl, hK _ hb⟩))
               | (change Calls _ _ _ _ _; (go_at_call 81; (with_reducible refine (HNEXT.out _).mono ?_); rintro e w' ⟨rfl, hb⟩; exact ⟨_, rfl, hK _ hb⟩))
               | ((try go_ints); (try rw [if_pos (by omega)]); exact hK _ (Grows.refl _))))
      refine kindsR_nil (hF _ rfl rfl (fun ww hg hfx => ?_))
      clear hF F
      simp only [pushSlot, finish, Act.put, List.setIfInBounds_toArray, List.set_cons_succ, List.set_cons_zero]
      have D1 : Blk ww (w.heap.size + 1 + 1 + 1) 24 (num r') := hfx _ (List.Mem.head _)
      have L1 := But.below HM.out.below.drew hg HM.out.below.size (by simp; omega)
      have A1 := HM.out.A.drew.but hg (notin1 (by omega))
      have B1 := HM.out.B.drew.but hg (notin1 (by omega))
      have Q1 := HM.out.Q.drew.but hg (notin1 (by omega))
      have HM1 := hide (DivMem.mk L1 A1 B1 Q1 D1)
      clear hg hfx D1 L1 A1 B1 Q1 la lb HBIT HNEXT HM
      go_wp2_with fail
      have hqi := HQI.out
      have hri := HRI.out
      have hsz := HSZ.out
      have hor := HOR.out
      refine wp_region_kindsR [w.heap.size + 1 + 1] [effCell 10 (w.heap.size + 1 + 1) Qi 24 (num q) (uw y)] (by kernel_rfl) (by kernel_rfl) (effs_cell HM1.out.Q.drew) rfl (fun F hF => ?_)
      repeat (first
        | refine kindsR_move_is _ rfl rfl (Or.inl rfl) rfl ?_
        | refine kindsR_move_is _ rfl rfl (Or.inr rfl) rfl ?_
        | refine kindsR_preload 62 22 (effCell 10 (w.heap.size + 1 + 1) Qi 24 (num q) (uw y)) (List.Mem.head _) (by kernel_rfl) rfl rfl rfl rfl (fun w' h => load_word h HOLD.out) ?_
        | refine kindsR_cell 69 68 22 (w.heap.size + 1 + 1) Qi 24 (num q) (uw y) rfl rfl rfl rfl rfl (List.Mem.head _) (List.Mem.head _) (fun w' h => store_word h HOLD.out y) ?_
        | (apply kindsR_is rfl rfl
           · intro ρ wv K hw hf hK
             first | obtain ⟨e0, e1, e2, e3, e4, e5, e6, -⟩ := hf | obtain ⟨e0, e1, e2, e3, e4, e5, -⟩ := hf | obtain ⟨e0, e1, e2, e3, e4, -⟩ := hf | obtain ⟨e0, e1, e2, e3, -⟩ := hf | obtain ⟨e0, e1, e2, -⟩ := hf | obtain ⟨e0, e1, -⟩ := hf | obtain ⟨e0, -⟩ := hf | clear hf
             (try change ρ _ = _ at e0)
             (try change ρ _ = _ at e1)
             (try change ρ _ = _ at e2)
             (try change ρ _ = _ at e3)
             unfold gives
             go_simp
             (try go_ints)
             (try rw [if_pos (by omega)])
             exact hK _ (Grows.refl _)))
      refine kindsR_nil (hF _ rfl rfl (fun ww hg hfx => ?_))
      clear hF F
      simp only [pushSlot, finish, Act.put, List.setIfInBounds_toArray, List.set_cons_succ, List.set_cons_zero]
      have C1 : Blk ww (w.heap.size + 1 + 1) 24 ((num q).setIfInBounds Qi (uw y)) := hfx _ (List.Mem.head _)
      rw [HSET.out, HQ'.out] at C1
      have L1 := But.below HM1.out.below.drew hg HM1.out.below.size (by simp; omega)
      have A1 := HM1.out.A.drew.but hg (notin1 (by omega))
      have B1 := HM1.out.B.drew.but hg (notin1 (by omega))
      have R1 := HM1.out.R.drew.but hg (notin1 (by omega))
      rw [HR'.out] at R1
      have HM2 := hide (DivMem.mk (fq := wd (upb a i / b * 2 ^ i)) L1 A1 B1 C1 R1)
      clear hg hfx L1 A1 B1 C1 R1 HM1 hqi hri hsz hor
      go_wp2_with fail
      go_roundw
      case rel => exact ⟨k + 1, by omega, by go_num, by rw [show n - (k + 1) = i by have := HI.out; omega]; exact HM2.out⟩
      case measure => simp [intOf]; omega
    · obtain rfl : k = n := by omega
      have M := HM.out
      rw [Nat.sub_self, upb_0, Nat.pow_zero, Nat.mul_one] at M
      obtain ⟨q, r, eq, er⟩ : ∃ q r : Nat, q = a / b ∧ r = a % b := ⟨_, _, rfl, rfl⟩
      rw [← eq, ← er] at M
      have HM0 := hide M
      have HE1 := hide eq
      have HE2 := hide er
      clear M eq er HM HTOP
      go_wp2_with fail
      refine wp_region_kindsR [w.heap.size + 1 + 1, w.heap.size + 1 + 1 + 1] [effRow 2 (w.heap.size + 1 + 1) 24 (num q) (num q), effRow 3 (w.heap.size + 1 + 1 + 1) 24 (num r) (num r)] (by kernel_rfl) (by kernel_rfl) (effs_two (by decide) (by omega) HM0.out.Q.drew HM0.out.R.drew) rfl (fun F hF => ?_)
      repeat (first
        | refine kindsR_move_is _ rfl rfl (Or.inl rfl) rfl ?_
        | refine kindsR_move_is _ rfl rfl (Or.inr rfl) rfl ?_
        | refine kindsR_preload 4 24 (effRow 2 (w.heap.size + 1 + 1) 24 (num q) (num q)) (List.Mem.head _) (by kernel_rfl) rfl rfl rfl rfl (fun w' h => load_num h) ?_
        | refine kindsR_preload 5 24 (effRow 3 (w.heap.size + 1 + 1 + 1) 24 (num r) (num r)) (List.Mem.tail _ (List.Mem.head _)) (by kernel_rfl) rfl rfl rfl rfl (fun w' h => load_num h) ?_
        | refine kindsR_row 4 71 24 (w.heap.size + 1 + 1) 24 (num q) (num q) rfl rfl rfl rfl rfl (List.Mem.head _) (List.Mem.head _) info4 rfl (wrow_one _) ?_
        | refine kindsR_row 5 72 24 (w.heap.size + 1 + 1 + 1) 24 (num r) (num r) rfl rfl rfl rfl rfl (List.Mem.tail _ (List.Mem.head _)) (List.Mem.tail _ (List.Mem.head _)) info4 rfl (wrow_one _) ?_
        | (apply kindsR_is rfl rfl
           · intro ρ wv K hw hf hK
             first | obtain ⟨e0, e1, e2, e3, e4, e5, e6, -⟩ := hf | obtain ⟨e0, e1, e2, e3, e4, e5, -⟩ := hf | obtain ⟨e0, e1, e2, e3, e4, -⟩ := hf | obtain ⟨e0, e1, e2, e3, -⟩ := hf | obtain ⟨e0, e1, e2, -⟩ := hf | obtain ⟨e0, e1, -⟩ := hf | obtain ⟨e0, -⟩ := hf | clear hf
             (try change ρ _ = _ at e0)
             (try change ρ _ = _ at e1)
             (try change ρ _ = _ at e2)
             (try change ρ _ = _ at e3)
             unfold gives
             go_simp
             (try go_ints)
             (try rw [if_pos (by omega)])
             exact hK _ (Grows.refl _)))
      refine kindsR_nil (hF _ rfl rfl (fun ww hg hfx => ?_))
      clear hF F
      simp only [pushSlot, finish, Act.put, List.setIfInBounds_toArray, List.set_cons_succ, List.set_cons_zero]
      have C1 : Blk ww (w.heap.size + 1 + 1) 24 (num q) := hfx _ (List.Mem.head _)
      have D1 : Blk ww (w.heap.size + 1 + 1 + 1) 24 (num r) := hfx _ (List.Mem.tail _ (List.Mem.head _))
      have L1 := But.below HM0.out.below.drew hg HM0.out.below.size (by simp; omega)
      clear hg hfx
      go_wp2_with fail
      exact bodyPost_ret (results_num2_tmp rfl rfl rfl C1 D1) rfl ⟨by rw [← HE1.out, ← HE2.out]; rfl, L1⟩
end Go.Proofs.Ythdanjbgbbcafaa
