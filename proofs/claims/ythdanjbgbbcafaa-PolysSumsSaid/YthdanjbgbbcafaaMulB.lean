/- limbs.Mul, walked. -/
import Derived.Test.YthdanjbgbbcafaaMulA
import Derived.Laws.Cover3
import Derived.Test.YthdanjbgbbcafaaTypR
namespace Go.Proofs.Ythdanjbgbbcafaa
open Go Go.RowKit

def row8 (f : Nat → Nat) : Array Value := #[uw (f 0), uw (f 1), uw (f 2), uw (f 3), uw (f 4), uw (f 5), uw (f 6), uw (f 7)]
theorem eight {i : Nat} (h : i < 8) : i = 0 ∨ i = 1 ∨ i = 2 ∨ i = 3 ∨ i = 4 ∨ i = 5 ∨ i = 6 ∨ i = 7 := by omega
theorem row8_at (f : Nat → Nat) (i : Nat) (h : i < 8) : (row8 f)[i]? = some (uw (f i)) := by
  rcases eight h with rfl | rfl | rfl | rfl | rfl | rfl | rfl | rfl <;> rfl
theorem row8_set (f : Nat → Nat) (j v : Nat) (h : j < 8) : (row8 f).setIfInBounds j (uw v) = row8 (upd f j v) := by
  rcases eight h with rfl | rfl | rfl | rfl | rfl | rfl | rfl | rfl <;> rfl
theorem index_num (n k : Nat) (hk : k < 4) (w : World) : (Instr.index 24 (.agg (num n)) (.int .i64 (k : Int))).run Try.prog w = .ok (uw (wd n k)) w := by
  obtain ⟨i0, hi0, _, hi, _⟩ := info_parts info_u64
  exact run_index_agg 24 22 4 (num n) .i64 .u64 k _ i0 Try.underlying24 hi0 hi Try.underlying22 hk (num_at n k hk) w
/-- Two numbers in memory: a function's results. -/
theorem results_num2 {fn : Func} {p q : Tmp} (h : fn.results = #[.cell p 24, .cell q 24]) {tmps : Array Value} {w : World} {g g' : Nat} {t t' : TypeId} {f f' : Nat → Nat} (hp : tmps.getD p undef = .pointer (some ⟨g, 0, none⟩)) (hq : tmps.getD q undef = .pointer (some ⟨g', 0, none⟩)) (B : Blk w g t (wrow f)) (B' : Blk w g' t' (wrow f')) :
    (results fn tmps).run Try.prog w = .ok (.tuple #[.agg (wrow f), .agg (wrow f')]) w := by
  have hp' : tmps[p]?.getD undef = .pointer (some ⟨g, 0, none⟩) := by simpa using hp
  have hq' : tmps[q]?.getD undef = .pointer (some ⟨g', 0, none⟩) := by simpa using hq
  simp [results, h, hp', hq', asAddr, loadVar_num B, loadVar_num B']
theorem load8_low {w : World} {g : Nat} {t : TypeId} {f : Nat → Nat} {r : Nat} (B : Blk w g t (row8 f)) (hf : ∀ i, i < 4 → f i < 18446744073709551616) (hr : ofw f = r) : ∀ w', Grows w w' → (Instr.loadAt 24 (.pointer (some ⟨g, 0, none⟩))).run Try.prog w' = .ok (.agg (num r)) w' := by
  intro w' hg
  rw [← hr, ← wrow_num hf]
  refine run_loadAt_mid w' g 0 24 (wrow f).toList _ (fun i v hv => ?_) Try.underlying24 rfl (by rw [Array.length_toList, wrow_size]; exact info4)
  have hi : i < 4 := by
    rcases Nat.lt_or_ge i 4 with h | h
    · exact h
    · rw [List.getElem?_eq_none (by rw [Array.length_toList, wrow_size]; exact h)] at hv; cases hv
  rw [(B.below hg B.lt).cell, Nat.zero_add, row8_at f i (by omega), ← hv, Array.getElem?_toList, wrow_at f i hi]
theorem load8_high {w : World} {g : Nat} {t : TypeId} {f : Nat → Nat} {r : Nat} (B : Blk w g t (row8 f)) (hf : ∀ i, i < 4 → f (4 + i) < 18446744073709551616) (hr : ofw (fun i => f (4 + i)) = r) : ∀ w', Grows w w' → (Instr.loadAt 24 (.pointer (some ⟨g, 4, none⟩))).run Try.prog w' = .ok (.agg (num r)) w' := by
  intro w' hg
  rw [← hr, ← wrow_num hf]
  refine run_loadAt_mid w' g 4 24 (wrow fun i => f (4 + i)).toList _ (fun i v hv => ?_) Try.underlying24 rfl (by rw [Array.length_toList, wrow_size]; exact info4)
  have hi : i < 4 := by
    rcases Nat.lt_or_ge i 4 with h | h
    · exact h
    · rw [List.getElem?_eq_none (by rw [Array.length_toList, wrow_size]; exact h)] at hv; cases hv
  rw [(B.below hg B.lt).cell, row8_at f (4 + i) (by omega), ← hv, Array.getElem?_toList, wrow_at _ i hi]
structure MulMem (w : World) (a b : Nat) (t24 t114 : TypeId) (f : Nat → Nat) (wr : World) : Prop where
  below : Below w.heap.size w wr
  A : Blk wr w.heap.size t24 (num a)
  B : Blk wr (w.heap.size + 1) t24 (num b)
  C : Blk wr (w.heap.size + 1 + 1) t24 (num 0)
  D : Blk wr (w.heap.size + 1 + 1 + 1) t24 (num 0)
  L : Blk wr (w.heap.size + 1 + 1 + 1 + 1) t114 (row8 f)
theorem MulMem.put {w wr : World} {a b : Nat} {t24 t114 : TypeId} {f : Nat → Nat} (h : MulMem w a b t24 t114 f wr) (j v : Nat) (hj : j < 8) : MulMem w a b t24 t114 (upd f j v) (wr.setCell ⟨w.heap.size + 1 + 1 + 1 + 1, j, none⟩ (uw v)) :=
  ⟨below_cell2 h.below (by omega) _, h.A.far2 (by omega) _, h.B.far2 (by omega) _, h.C.far2 (by omega) _, h.D.far2 (by omega) _, by
    have H := h.L.set_ j (uw v)
    rw [row8_set f j v hj] at H
    exact H⟩
def MulRel (w : World) (a b : Nat) (t24 t114 : TypeId) (vi : Value) (wr : World) : Prop :=
  ∃ (k : Nat) (f : Nat → Nat), k ≤ 4 ∧ vi = .int .i64 (k : Nat) ∧ MulInv a b k f ∧ MulMem w a b t24 t114 f wr
def MulRelIn (w : World) (a b : Nat) (t24 t114 : TypeId) (i : Nat) (f0 : Nat → Nat) (vm vk : Value) (wr : World) : Prop :=
  ∃ (k : Nat) (f : Nat → Nat) (m : Nat), k ≤ 4 ∧ vk = .int .i64 (k : Nat) ∧ vm = uw m ∧ MulIn a b i f0 k f m ∧ MulMem w a b t24 t114 f wr
set_option maxRecDepth 100000 in
set_option maxHeartbeats 2000000 in
theorem lmul_any (a b : Nat) (ha : a < big) (hb : b < big) (w : World) :
    Calls Try.prog 77 #[.agg (num a), .agg (num b)] w fun e w' => e = .returned (.tuple #[.agg (num (a * b % big)), .agg (num (a * b / big))]) ∧ Below w.heap.size w w' := by
  obtain ⟨r, s, er, es, hr⟩ : ∃ r s : Nat, r = a * b % big ∧ s = a * b / big ∧ ∀ f, MulInv a b 4 f → ofw f = r ∧ ofw (fun i => f (4 + i)) = s := ⟨_, _, rfl, rfl, fun f h => mul_done ha hb h⟩
  rw [← er, ← es]
  have HR := hide hr
  clear hr ha hb er es
  go_enter Try.func77, Try.ntmps77
  go_upto_region 2 with fail
  have M : MulMem w a b 24 114 (fun _ => 0) (((((w.alloc (.cells (num a) 24)).alloc (.cells (num b) 24)).alloc (.cells (num 0) 24)).alloc (.cells (num 0) 24)).alloc (.cells (row8 fun _ => 0) 114)) := by
    refine ⟨(((((Below.refl _ _).alloc (Nat.le_refl _) _).alloc ?_ _).alloc ?_ _).alloc ?_ _).alloc ?_ _, ((((Blk.new w _ _).alloc _).alloc _).alloc _).alloc _, ?_, ?_, ?_, ?_⟩
    · simp
    · simp; omega
    · simp; omega
    · simp; omega
    · have h := (((Blk.new (w.alloc (.cells (num a) 24)) 24 (num b)).alloc (.cells (num 0) 24)).alloc (.cells (num 0) 24)).alloc (.cells (row8 fun _ => 0) 114)
      simp only [World.size_alloc] at h
      exact h
    · have h := ((Blk.new ((w.alloc (.cells (num a) 24)).alloc (.cells (num b) 24)) 24 (num 0)).alloc (.cells (num 0) 24)).alloc (.cells (row8 fun _ => 0) 114)
      simp only [World.size_alloc] at h
      exact h
    · have h := (Blk.new (((w.alloc (.cells (num a) 24)).alloc (.cells (num b) 24)).alloc (.cells (num 0) 24)) 24 (num 0)).alloc (.cells (row8 fun _ => 0) 114)
      simp only [World.size_alloc] at h
      exact h
    · have h := Blk.new ((((w.alloc (.cells (num a) 24)).alloc (.cells (num b) 24)).alloc (.cells (num 0) 24)).alloc (.cells (num 0) 24)) 114 (row8 fun _ => 0)
      simp only [World.size_alloc] at h
      exact h
  rw [num_zero] at M
  change MulMem w a b 24 114 (fun _ => 0) (((((w.alloc (.cells (num a) 24)).alloc (.cells (num b) 24)).alloc (.cells #[.int .u64 0, .int .u64 0, .int .u64 0, .int .u64 0] 24)).alloc (.cells #[.int .u64 0, .int .u64 0, .int .u64 0, .int .u64 0] 24)).alloc (.cells #[.int .u64 0, .int .u64 0, .int .u64 0, .int .u64 0, .int .u64 0, .int .u64 0, .int .u64 0, .int .u64 0] 114)) at M
  generalize ((((w.alloc (.cells (num a) 24)).alloc (.cells (num b) 24)).alloc (.cells #[.int .u64 0, .int .u64 0, .int .u64 0, .int .u64 0] 24)).alloc (.cells #[.int .u64 0, .int .u64 0, .int .u64 0, .int .u64 0] 24)).alloc (.cells #[.int .u64 0, .int .u64 0, .int .u64 0, .int .u64 0, .int .u64 0, .int .u64 0, .int .u64 0, .int .u64 0] 114) = w1 at *
  have HM := hide M
  clear M
  go_wp2_with (refine wpList_load_row rfl 24 _ rfl w.heap.size rfl 24 (num a) (0, 0) _ HM.out.A Try.underlying24 rfl info4 ?_)
  go_loopw [13] (fun vi wr => MulRel w a b 24 114 vi wr) (fun i _ => 4 - (intOf i).toNat)
  case atStart => exact ⟨0, _, by omega, rfl, mul_begin a b, HM.out⟩
  case round =>
    clear HM
    obtain ⟨i, f0, hi, rfl, hinv, M⟩ := hrel
    have HI := hide hinv
    have HM := hide M
    clear hinv M
    by_cases hi4 : i < 4
    · have hidx := index_num a i hi4
      have hxl := wd_lt a i
      obtain ⟨x, hx⟩ : ∃ x : Nat, x = wd a i := ⟨_, rfl⟩
      rw [← hx] at hidx hxl
      have HX := hide hx
      clear hx
      go_wp2_with (refine wpList_load_row rfl 24 _ rfl (w.heap.size + 1) rfl 24 (num b) (0, 0) _ HM.out.B Try.underlying24 rfl info4 ?_)
      clear hidx
      go_loopw [9, 18] (fun vm vk wr => MulRelIn w a b 24 114 i f0 vm vk wr) (fun _ k _ => 4 - (intOf k).toNat)
      case atStart => exact ⟨0, f0, 0, by omega, rfl, rfl, mul_in a b i HI.out, HM.out⟩
      case round =>
        clear HM
        obtain ⟨k, f, m, hk, rfl, rfl, hin, M⟩ := hrel
        have HIN := hide hin
        have HM := hide M
        have hm := hin.more
        clear hin M
        by_cases hk4 : k < 4
        · have hidx := index_num b k hk4
          have hyl := wd_lt b k
          have hst := mul_step HIN.out hi4 hk4
          have hcell := (HM.out.L.cell (i + k)).trans (row8_at f (i + k) (by omega))
          have hfz := HM.out.L.frozen (i + k)
          have hzl := HIN.out.low (i + k)
          obtain ⟨y, hy⟩ : ∃ y : Nat, y = wd b k := ⟨_, rfl⟩
          obtain ⟨z, hz⟩ : ∃ z : Nat, z = f (i + k) := ⟨_, rfl⟩
          rw [← HX.out, ← hy, ← hz] at hst
          rw [← hy] at hidx hyl
          rw [← hz] at hcell hzl
          have hct := fun w => ltimes_any x y z m hxl hyl hzl hm w
          obtain ⟨lo, hlo⟩ : ∃ lo : Nat, lo = (x * y + z + m) % 18446744073709551616 := ⟨_, rfl⟩
          obtain ⟨up, hup⟩ : ∃ up : Nat, up = (x * y + z + m) / 18446744073709551616 := ⟨_, rfl⟩
          rw [← hlo, ← hup] at hct hst
          have HCT := hide hct
          have HST := hide hst
          clear hct hst hy hz hlo hup
          go_wp2_with fail
          with_reducible refine (HCT.out _).mono ?_
          rintro e w2 ⟨rfl, rfl⟩
          clear hidx
          go_wp2_with fail
          go_roundw
          case rel => exact ⟨k + 1, _, up, by omega, by go_num, rfl, HST.out, HM.out.put (i + k) lo (by omega)⟩
          case measure => simp [intOf]; omega
        · obtain rfl : k = 4 := by omega
          have hcell := (HM.out.L.cell (i + 4)).trans (row8_at f (i + 4) (by omega))
          have hfz := HM.out.L.frozen (i + 4)
          have hend := mul_end HI.out HIN.out hi4
          have HEND := hide hend
          clear hend
          go_wp2_with fail
          go_roundw
          case rel => exact ⟨i + 1, _, by omega, by go_num, HEND.out, HM.out.put (i + 4) m (by omega)⟩
          case measure => simp [intOf]; omega
    · obtain rfl : i = 4 := by omega
      obtain ⟨h1, h2⟩ := HR.out f0 HI.out
      have hlo : ∀ w', But [w.heap.size + 1 + 1, w.heap.size + 1 + 1 + 1] wr.drew w' → (Instr.loadAt 24 (.pointer (some ⟨w.heap.size + 1 + 1 + 1 + 1, 0, none⟩))).run Try.prog w' = .ok (.agg (num r)) w' := fun w' h => load8_low (HM.out.L.drew.but h (notin2 (by omega) (by omega))) (fun j _ => HI.out.low j) h1 w' (Grows.refl _)
      have hhi : ∀ w', But [w.heap.size + 1 + 1, w.heap.size + 1 + 1 + 1] wr.drew w' → (Instr.loadAt 24 (.pointer (some ⟨w.heap.size + 1 + 1 + 1 + 1, 4, none⟩))).run Try.prog w' = .ok (.agg (num s)) w' := fun w' h => load8_high (HM.out.L.drew.but h (notin2 (by omega) (by omega))) (fun j _ => HI.out.low (4 + j)) h2 w' (Grows.refl _)
      have hat0 : ∀ w', (Instr.arrayAt 24 (.slice (some ⟨w.heap.size + 1 + 1 + 1 + 1, 0, none⟩) 4 8)).run Try.prog w' = .ok (.pointer (some ⟨w.heap.size + 1 + 1 + 1 + 1, 0, none⟩)) w' := fun w' => run_arrayAt w' 24 _ 4 _ 4 8 Try.underlying24 (by decide)
      have hat4 : ∀ w', (Instr.arrayAt 24 (.slice (some ⟨w.heap.size + 1 + 1 + 1 + 1, 4, none⟩) 4 4)).run Try.prog w' = .ok (.pointer (some ⟨w.heap.size + 1 + 1 + 1 + 1, 4, none⟩)) w' := fun w' => run_arrayAt w' 24 _ 4 _ 4 4 Try.underlying24 (by decide)
      clear h1 h2 HR HI
      go_wp2_with fail
      refine wp_region_kindsR [w.heap.size + 1 + 1, w.heap.size + 1 + 1 + 1] [effRow 6 (w.heap.size + 1 + 1) 24 (num 0) (num r), effRow 7 (w.heap.size + 1 + 1 + 1) 24 (num 0) (num s)] (by kernel_rfl) (by kernel_rfl) (effs_two (by decide) (by omega) HM.out.C.drew HM.out.D.drew) rfl (fun F hF => ?_)
      repeat (first
        | refine kindsR_move_is _ rfl rfl (Or.inl rfl) rfl ?_
        | refine kindsR_move_is _ rfl rfl (Or.inr rfl) rfl ?_
        | refine kindsR_load 45 24 rfl rfl rfl rfl hlo ?_
        | refine kindsR_load 48 24 rfl rfl rfl rfl hhi ?_
        | refine kindsR_row 4 46 24 (w.heap.size + 1 + 1) 24 (num 0) (num r) rfl rfl rfl rfl rfl (List.Mem.head _) (List.Mem.head _) info4 rfl (num_one _) ?_
        | refine kindsR_row 5 49 24 (w.heap.size + 1 + 1 + 1) 24 (num 0) (num s) rfl rfl rfl rfl rfl (List.Mem.tail _ (List.Mem.head _)) (List.Mem.tail _ (List.Mem.head _)) info4 rfl (num_one _) ?_
        | (apply kindsR_is rfl rfl
           · intro ρ wv K hw hf hK
             obtain ⟨e0, e1, -⟩ := hf
             change ρ _ = _ at e0
             change ρ _ = _ at e1
             unfold gives
             go_simp
             exact hK _ (Grows.refl _))
        | (apply kindsR_is rfl rfl
           · intro ρ wv K hw hf hK
             obtain ⟨e0, -⟩ := hf
             change ρ _ = _ at e0
             unfold gives
             go_simp
             exact hK _ (Grows.refl _))
        | (apply kindsR_is rfl rfl
           · intro ρ wv K hw hf hK
             first | obtain ⟨e0, e1, e2, e3, e4, e5, e6, -⟩ := hf | obtain ⟨e0, e1, e2, e3, e4, e5, -⟩ := hf | obtain ⟨e0, e1, e2, e3, e4, -⟩ := hf | obtain ⟨e0, e1, e2, e3, -⟩ := hf | obtain ⟨e0, e1, e2, -⟩ := hf | obtain ⟨e0, e1, -⟩ := hf | obtain ⟨e0, -⟩ := hf | clear hf
             (try change ρ _ = _ at e0)
             (try change ρ _ = _ at e1)
             (try change ρ _ = _ at e2)
             (try change ρ _ = _ at e3)
             unfold gives
             go_simp
             (try go_ints)
             (try rw [if_pos (by omega)])
             exact hK _ (Grows.refl _)))
      refine kindsR_nil (hF _ rfl rfl (fun ww hg hfx => ?_))
      clear hF F
      simp only [pushSlot, finish, Act.put, List.setIfInBounds_toArray, List.set_cons_succ, List.set_cons_zero]
      have C1 : Blk ww (w.heap.size + 1 + 1) 24 (num r) := hfx _ (List.Mem.head _)
      have D1 : Blk ww (w.heap.size + 1 + 1 + 1) 24 (num s) := hfx _ (List.Mem.tail _ (List.Mem.head _))
      have L1 := But.below HM.out.below.drew hg HM.out.below.size (by simp; omega)
      clear hlo hhi hat0 hat4 hg hfx
      go_wp2_with fail
      refine bodyPost_ret (results_num2 rfl rfl rfl C1 D1) rfl ⟨rfl, L1⟩
end Go.Proofs.Ythdanjbgbbcafaa
