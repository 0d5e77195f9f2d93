/- mods.Inv. -/
import Derived.Test.YthdanjbgbbcafaaTimes
import Derived.Test.YthdanjbgbbcafaaTypF
namespace Go.Proofs.Ythdanjbgbbcafaa
open Go Go.RowKit

theorem inv_ring (x y z a m q u s r left k1 k2 k3 k4 : Int) (h1 : z = x + m - u - m*k1) (h2 : u = q*y - m*k2) (h3 : x*a - r = m*k3) (h4 : y*a - s = m*k4) (h5 : r = q*s+left) : z*a - left = m*(k3 + a - q*k4 + k2*a - k1*a) := by grind
theorem dvd_mod {m a b : Nat} (h : a % m = b % m) : ∃ k : Int, (a:Int) - b = m * k := by
  refine ⟨(a / m : Nat) - (b / m : Nat), ?_⟩
  have e1 : ((m * (a / m) + a % m : Nat) : Int) = a := by rw [Nat.div_add_mod]
  have e2 : ((m * (b / m) + b % m : Nat) : Int) = b := by rw [Nat.div_add_mod]
  rw [Int.natCast_add, Int.natCast_mul] at e1 e2
  rw [Int.mul_sub, ← e1, ← e2, h]
  omega
theorem mod_dvd {m a b : Nat} {k : Int} (h : (a:Int) - b = m * k) : a % m = b % m := by
  have : ((a : Int)) % m = (b : Int) % m := by
    rw [Int.emod_eq_emod_iff_emod_sub_eq_zero]
    exact Int.emod_eq_zero_of_dvd ⟨_, h⟩
  exact_mod_cast this
theorem inv_step (m a r s x y : Nat) (hm : 1 < m) (hr : r ≤ m) (hs : 2 ≤ s) (hx : x < m) (hg : Nat.gcd r s = 1) (h1 : x * a % m = r % m) (h2 : y * a % m = s % m) :
    r / s < m ∧ 1 ≤ r % s ∧ r % s < s ∧ Nat.gcd s (r % s) = 1 ∧ r / s * y % m < m ∧ (x + m - r / s * y % m) % m < m ∧ (x + m - r / s * y % m) % m * a % m = r % s % m := by
  have hq : r / s < m := by
    rw [Nat.div_lt_iff_lt_mul (by omega)]
    have : m * 2 ≤ m * s := Nat.mul_le_mul_left m hs
    omega
  have hl : r % s < s := Nat.mod_lt _ (by omega)
  have hgl : Nat.gcd s (r % s) = 1 := by rw [Nat.gcd_comm, ← Nat.gcd_rec, Nat.gcd_comm]; exact hg
  have hl1 : 1 ≤ r % s := by
    rcases Nat.eq_zero_or_pos (r % s) with h | h
    · rw [h, Nat.gcd_zero_right] at hgl; omega
    · exact h
  have hu : r / s * y % m < m := Nat.mod_lt _ (by omega)
  refine ⟨hq, hl1, hl, hgl, hu, Nat.mod_lt _ (by omega), ?_⟩
  obtain ⟨k1, e1⟩ := dvd_mod (Nat.mod_mod (x + m - r / s * y % m) m)
  obtain ⟨k2, e2⟩ := dvd_mod (Nat.mod_mod (r / s * y) m)
  obtain ⟨k3, e3⟩ := dvd_mod h1
  obtain ⟨k4, e4⟩ := dvd_mod h2
  have e5 : ((s * (r / s) + r % s : Nat) : Int) = r := by rw [Nat.div_add_mod]
  have e6 : ((x + m - r / s * y % m : Nat) : Int) = x + m - (r / s * y % m : Nat) := by omega
  rw [Int.natCast_add, Int.natCast_mul] at e5
  rw [Int.natCast_mul] at e3 e4
  refine mod_dvd (k := k3 + a - (r / s : Nat) * k4 + (-k2) * a - (-k1) * a) ?_
  rw [Int.natCast_mul]
  refine inv_ring x y _ a m (r / s : Nat) (r / s * y % m : Nat) s r _ (-k1) (-k2) k3 k4 ?_ ?_ e3 e4 ?_
  · rw [Int.mul_neg, ← e1, e6]; omega
  · rw [Int.mul_neg, ← e2, Int.natCast_mul]; omega
  · rw [← e5, Int.mul_comm]
theorem inv_one {m a x y : Nat} (hx : x < m) (hy : y < m) (h1 : a * x % m = 1) (h2 : a * y % m = 1) : x = y := by
  have : x % m = y % m := by
    have e1 : x * (a * y % m) % m = y * (a * x % m) % m := by
      rw [Nat.mul_mod, Nat.mod_mod, ← Nat.mul_mod, Nat.mul_mod y, Nat.mod_mod, ← Nat.mul_mod, Nat.mul_left_comm, Nat.mul_comm y, Nat.mul_assoc]
    rw [h1, h2] at e1
    simpa using e1
  rwa [Nat.mod_eq_of_lt hx, Nat.mod_eq_of_lt hy] at this
open Classical in
/-- What a number must be multiplied with for 1; 0, where there is none. -/
noncomputable def invN (a m : Nat) : Nat := if h : ∃ y, y < m ∧ a * y % m = 1 then Classical.choose h else 0
theorem invN_is {a m y : Nat} (hy : y < m) (h : a * y % m = 1) : invN a m = y := by
  have hx : ∃ y, y < m ∧ a * y % m = 1 := ⟨y, hy, h⟩
  unfold invN
  rw [dif_pos hx]
  have := Classical.choose_spec hx
  exact inv_one this.1 hy this.2 h
theorem invN_none {a m : Nat} (h : Nat.gcd a m ≠ 1) : invN a m = 0 := by
  unfold invN
  rw [dif_neg]
  rintro ⟨y, hy, e⟩
  refine h (Nat.dvd_one.1 ?_)
  rw [← e]
  exact (Nat.dvd_mod_iff (Nat.gcd_dvd_right a m)).2 (Nat.dvd_mul_right_of_dvd (Nat.gcd_dvd_left a m) y)
theorem alloc_num (w : World) : (Instr.alloc 24 true (.tuple #[])).run Try.prog w = .ok (.pointer (some ⟨w.heap.size, 0, none⟩)) (w.alloc (.cells nought 24)) := by
  kernel_rfl
theorem store_num (n : Nat) (w : World) (g : Nat) (B : Blk w g 24 nought) : (Instr.storeAt 24 (.pointer (some ⟨g, 0, none⟩)) (.agg (num n))).run Try.prog w = .ok () (w.setRow g (num n)) := by
  simp only [Instr.storeAt, Instr.sureAddr, Sem.run_bind, Sem.run_pure, Result.andThen_ok, run_storeVar_row w g 24 24 nought (num n) B info4 rfl (num_one n)]
theorem num_one' : num 1 = #[uw 1, uw 0, uw 0, uw 0] := num_word 1 (by decide)
set_option maxRecDepth 100000 in
set_option maxHeartbeats 4000000 in
theorem invDeed_no (a b m : Nat) (ha : a < big) (hm : m < big) (h : Nat.gcd a m ≠ 1) (w : World) : Calls Try.prog 58 #[.agg (num a), .agg (num b), .agg (num m)] w (NumEnds w 0) := by
  have hcom := fun w => common_any a m ha hm w
  have hof : ∀ w, Calls Try.prog 33 #[.int .u64 1] w (NumEnds w 1) := fun w => lof_any 1 (by decide) w
  have hdb : Nat.gcd a m < big ∨ a = 0 := by
    rcases Nat.eq_zero_or_pos a with h0 | h0
    · exact .inr h0
    · exact .inl (Nat.lt_of_le_of_lt (Nat.gcd_le_left m h0) ha)
  have hdb : Nat.gcd a m < big := by
    rcases hdb with h | h
    · exact h
    · rw [h, Nat.gcd_zero_left]; exact hm
  obtain ⟨d, hd⟩ : ∃ d : Nat, d = Nat.gcd a m := ⟨_, rfl⟩
  rw [← hd] at hcom h hdb
  have heq := num_neq d 1 hdb (by unfold big; decide)
  rw [decide_eq_false h] at heq
  have HC := hide hcom
  have HOF := hide hof
  clear hcom hof hd h hdb ha hm
  go_enter Try.func58, Try.ntmps58
  go_upto_region 1 with fail
  have M := ThreeMem.start w a b m 24 nought num_zero.symm
  change Code.wp _ _ _ _ ((((w.alloc (.cells (num a) 24)).alloc (.cells (num b) 24)).alloc (.cells (num m) 24)).alloc (.cells nought 24))
  generalize (((w.alloc (.cells (num a) 24)).alloc (.cells (num b) 24)).alloc (.cells (num m) 24)).alloc (.cells nought 24) = w1 at *
  have HM := hide M
  clear M
  go_wp2_with (first | (refine wpList_load_row rfl 24 _ rfl (w.heap.size) rfl 24 (num a) (0, 0) _ HM.out.A Try.underlying24 rfl info4 ?_) | (refine wpList_load_row rfl 24 _ rfl (w.heap.size + 1 + 1) rfl 24 (num m) (0, 0) _ HM.out.M Try.underlying24 rfl info4 ?_) | fail)
  with_reducible refine (HC.out _).mono ?_
  rintro e w2 ⟨rfl, L⟩
  have HM2 := hide (HM.out.grow L)
  clear L HM HC
  go_wp2_with fail
  with_reducible refine (HOF.out _).mono ?_
  rintro e w3 ⟨rfl, L⟩
  have HM3 := hide (HM2.out.grow L)
  clear L HM2 HOF
  go_wp2_with (first | (refine wpList_store_row rfl 24 (.tmp 6) (.tmp 21) rfl (w.heap.size + 1 + 1 + 1) nought rfl rfl 24 _ (HM3.out.R) info4 rfl (word_one 0) ?_))
  have hS : Blk (w3.setRow (w.heap.size + 1 + 1 + 1) nought) (w.heap.size + 1 + 1 + 1) 24 (num 0) := by
    have h0 := HM3.out.R.setRow nought
    rw [num_zero]
    exact h0
  exact bodyPost_ret (results_num rfl rfl hS) rfl ⟨rfl, below_setRow HM3.out.below (by omega) _⟩
theorem ThreeMem.drew {w wr : World} {a b m : Nat} {t24 : TypeId} {r : Nat} (h : ThreeMem w a b m t24 r wr) : ThreeMem w a b m t24 r wr.drew :=
  ⟨h.below.drew, h.A.drew, h.B.drew, h.M.drew, h.R.drew⟩
theorem ThreeMem.but {rows : List Nat} {w wr w' : World} {a b m : Nat} {t24 : TypeId} {r : Nat} (h : ThreeMem w a b m t24 r wr) (hb : But rows wr w') (hr : ∀ g ∈ rows, w.heap.size + 1 + 1 + 1 < g) : ThreeMem w a b m t24 r w' :=
  ⟨But.below h.below hb h.below.size (fun g hg => by have := hr g hg; omega), h.A.but hb (fun hg => by have := hr _ hg; omega), h.B.but hb (fun hg => by have := hr _ hg; omega), h.M.but hb (fun hg => by have := hr _ hg; omega), h.R.but hb (fun hg => by have := hr _ hg; omega)⟩
structure RowEff where
  at_ : Nat
  g : Nat
  t : TypeId
  old : Array Value
  cs : Array Value
def RowEff.eff (x : RowEff) : Eff := effRow x.at_ x.g x.t x.old x.cs
theorem rows_apart : ∀ l : List RowEff, (l.Pairwise fun x y => x.at_ ≠ y.at_ ∧ x.g ≠ y.g) → ∀ x ∈ l, ∀ y ∈ l, x = y ∨ (x.at_ ≠ y.at_ ∧ x.g ≠ y.g)
  | [], _, x, hx, _, _ => by cases hx
  | a :: l, h, x, hx, y, hy => by
    rw [List.pairwise_cons] at h
    rcases List.mem_cons.1 hx with e | hx'
    · rcases List.mem_cons.1 hy with e' | hy'
      · exact .inl (e.trans e'.symm)
      · exact .inr (e ▸ h.1 y hy')
    · rcases List.mem_cons.1 hy with e' | hy'
      · have := h.1 x hx'
        exact .inr (e' ▸ ⟨Ne.symm this.1, Ne.symm this.2⟩)
      · exact rows_apart l h.2 x hx' y hy'
/-- Rows stored, each once. -/
theorem effs_rows {base : World} (l : List RowEff) (hp : l.Pairwise fun x y => x.at_ ≠ y.at_ ∧ x.g ≠ y.g) (hB : ∀ x ∈ l, Blk base x.g x.t x.old) : Effs (l.map RowEff.eff) base := by
  have hA := rows_apart l hp
  refine ⟨?_, ?_, ?_, ?_, ?_, ?_⟩
  · intro e he e' he' h1
    obtain ⟨x, hx, rfl⟩ := List.mem_map.1 he
    obtain ⟨y, hy, rfl⟩ := List.mem_map.1 he'
    rcases hA x hx y hy with rfl | h
    · rfl
    · exact absurd h1 h.1
  · intro e he
    obtain ⟨x, hx, rfl⟩ := List.mem_map.1 he
    exact hB x hx
  · intro e he w w' hg hG
    obtain ⟨x, hx, rfl⟩ := List.mem_map.1 he
    exact Blk.below (w := w) hG hg (Blk.lt hG)
  · intro e he w w' hg hG
    obtain ⟨x, hx, rfl⟩ := List.mem_map.1 he
    exact Blk.below (w := w) hG hg (Blk.lt hG)
  · intro e he e' he' hne w w' hE hG
    obtain ⟨x, hx, rfl⟩ := List.mem_map.1 he
    obtain ⟨y, hy, rfl⟩ := List.mem_map.1 he'
    rcases hA x hx y hy with rfl | h
    · exact absurd rfl hne
    · obtain rfl := hE
      exact Blk.setRow_far hG (by first | exact h.2 | exact Ne.symm h.2) _
  · intro e he e' he' hne w w' hE hG
    obtain ⟨x, hx, rfl⟩ := List.mem_map.1 he
    obtain ⟨y, hy, rfl⟩ := List.mem_map.1 he'
    rcases hA x hx y hy with rfl | h
    · exact absurd rfl hne
    · obtain rfl := hE
      exact Blk.setRow_far hG (by first | exact h.2 | exact Ne.symm h.2) _
theorem notin4 {g a b c d : Nat} (h1 : g ≠ a) (h2 : g ≠ b) (h3 : g ≠ c) (h4 : g ≠ d) : g ∉ [a, b, c, d] := by simp [h1, h2, h3, h4]
def InvRel (w : World) (a b m : Nat) (t24 : TypeId) (g7 g8 g9 g10 : Nat) (wr : World) : Prop :=
  ∃ r s x y : Nat, r ≤ m ∧ 1 ≤ s ∧ s < m ∧ x < m ∧ y < m ∧ Nat.gcd r s = 1 ∧ x * a % m = r % m ∧ y * a % m = s % m ∧ ThreeMem w a b m t24 0 wr ∧ Blk wr g7 t24 (num r) ∧ Blk wr g8 t24 (num s) ∧ Blk wr g9 t24 (num x) ∧ Blk wr g10 t24 (num y)
set_option maxRecDepth 100000 in
set_option maxHeartbeats 4000000 in
theorem invDeed_yes (a b m : Nat) (h1 : 1 < m) (ha : a < m) (hm : m < big) (h : Nat.gcd a m = 1) (w : World) : Calls Try.prog 58 #[.agg (num a), .agg (num b), .agg (num m)] w (NumEnds w (invN a m)) := by
  have hcom := fun w => common_any a m (by omega) hm w
  have hof : ∀ w, Calls Try.prog 33 #[.int .u64 1] w (NumEnds w 1) := fun w => lof_any 1 (by decide) w
  have hof0 : ∀ w, Calls Try.prog 33 #[.int .u64 0] w (NumEnds w 0) := fun w => lof_any 0 (by decide) w
  rw [h] at hcom
  have heq := num_neq 1 1 (by unfold big; decide) (by unfold big; decide)
  rw [decide_eq_true rfl] at heq
  have HC := hide hcom
  have HOF := hide hof
  have HOF0 := hide hof0
  have ha1 : 1 ≤ a := by
    rcases Nat.eq_zero_or_pos a with h0 | h0
    · rw [h0, Nat.gcd_zero_left] at h; omega
    · exact h0
  have HG := hide h
  clear hcom hof hof0 h
  go_enter Try.func58, Try.ntmps58
  go_upto_region 1 with fail
  have M := ThreeMem.start w a b m 24 nought num_zero.symm
  change Code.wp _ _ _ _ ((((w.alloc (.cells (num a) 24)).alloc (.cells (num b) 24)).alloc (.cells (num m) 24)).alloc (.cells nought 24))
  generalize (((w.alloc (.cells (num a) 24)).alloc (.cells (num b) 24)).alloc (.cells (num m) 24)).alloc (.cells nought 24) = w1 at *
  have HM := hide M
  clear M
  go_wp2_with (first | (refine wpList_load_row rfl 24 _ rfl (w.heap.size) rfl 24 (num a) (0, 0) _ HM.out.A Try.underlying24 rfl info4 ?_) | (refine wpList_load_row rfl 24 _ rfl (w.heap.size + 1 + 1) rfl 24 (num m) (0, 0) _ HM.out.M Try.underlying24 rfl info4 ?_) | fail)
  with_reducible refine (HC.out _).mono ?_
  rintro e w2 ⟨rfl, L⟩
  have HM2 := hide (HM.out.grow L)
  clear L HM HC
  go_wp2_with fail
  with_reducible refine (HOF.out _).mono ?_
  rintro e w3 ⟨rfl, L⟩
  have HM3 := hide (HM2.out.grow L)
  clear L HM2
  go_wp2_with fail
  clear heq
  have la := load_growsN HM3.out.A.drew
  have lm := load_growsN HM3.out.M.drew
  refine wp_region_kindsF [⟨4, 8, 24, nought, num m⟩, ⟨5, 9, 24, nought, num a⟩, ⟨6, 10, 24, nought, num 0⟩, ⟨7, 11, 24, nought, num 1⟩] (by kernel_rfl) (by kernel_rfl) (fun F hF => ?_)
  repeat (first
    | refine kindsF_move_is _ rfl rfl (Or.inl rfl) rfl ?_
    | refine kindsF_move_is _ rfl rfl (Or.inr rfl) rfl ?_
    | refine kindsF_load 5 24 rfl rfl rfl rfl lm ?_
    | refine kindsF_load 3 24 rfl rfl rfl rfl la ?_
    | refine kindsF_alloc 24 8 nought (num m) rfl rfl (List.Mem.head _) alloc_num ?_
    | refine kindsF_alloc 24 9 nought (num a) rfl rfl (List.Mem.tail _ (List.Mem.head _)) alloc_num ?_
    | refine kindsF_alloc 24 10 nought (num 0) rfl rfl (List.Mem.tail _ (List.Mem.tail _ (List.Mem.head _))) alloc_num ?_
    | refine kindsF_alloc 24 11 nought (num 1) rfl rfl (List.Mem.tail _ (List.Mem.tail _ (List.Mem.tail _ (List.Mem.head _)))) alloc_num ?_
    | refine kindsF_store 7 22 24 4 nought (num m) rfl rfl rfl rfl rfl (List.Mem.head _) (store_num m) ?_
    | refine kindsF_store 8 23 24 5 nought (num a) rfl rfl rfl rfl rfl (List.Mem.tail _ (List.Mem.head _)) (store_num a) ?_
    | refine kindsF_store 9 24 24 6 nought (num 0) rfl rfl rfl rfl rfl (List.Mem.tail _ (List.Mem.tail _ (List.Mem.head _))) (store_num 0) ?_
    | refine kindsF_store 10 25 24 7 nought (num 1) rfl rfl rfl rfl rfl (List.Mem.tail _ (List.Mem.tail _ (List.Mem.tail _ (List.Mem.head _)))) (store_num 1) ?_
    | (apply kindsF_is rfl rfl
       · intro ρ wv K hw hf hK
         first | obtain ⟨e0, e1, e2, e3, e4, e5, e6, -⟩ := hf | obtain ⟨e0, e1, e2, e3, e4, e5, -⟩ := hf | obtain ⟨e0, e1, e2, e3, e4, -⟩ := hf | obtain ⟨e0, e1, e2, e3, -⟩ := hf | obtain ⟨e0, e1, e2, -⟩ := hf | obtain ⟨e0, e1, -⟩ := hf | obtain ⟨e0, -⟩ := hf | clear hf
         (try change ρ _ = _ at e0)
         (try change ρ _ = _ at e1)
         (try change ρ _ = _ at e2)
         (try change ρ _ = _ at e3)
         unfold gives
         go_simp
         first
           | (change Calls _ _ _ _ _; (go_at_call 33; (first | with_reducible refine (HOF.out _).mono ?_ | with_reducible refine (HOF0.out _).mono ?_); rintro e w' ⟨rfl, hb⟩; exact ⟨_, rfl, hK _ hb⟩))
           | ((try go_ints); (try rw [if_pos (by omega)]); exact hK _ (Grows.refl _))))
  refine kindsF_nil (hF _ rfl rfl (fun ww γ hg hfr hun => ?_))
  clear hF F
  simp only [pushSlot, finish, Act.put, List.setIfInBounds_toArray, List.set_cons_succ, List.set_cons_zero]
  obtain ⟨⟨l7, B7⟩, ⟨l8, B8⟩, ⟨l9, B9⟩, ⟨l10, B10⟩, -⟩ := hfr
  obtain ⟨⟨n1, n2, n3, -⟩, ⟨n4, n5, -⟩, ⟨n6, -⟩, -⟩ := hun
  have HM4 := hide (HM3.out.drew.grow hg)
  have hsz := HM3.out.R.lt
  have l7 : w.heap.size + 1 + 1 + 1 < γ 4 := by have : w3.heap.size ≤ γ 4 := l7; omega
  have l8 : w.heap.size + 1 + 1 + 1 < γ 5 := by have : w3.heap.size ≤ γ 5 := l8; omega
  have l9 : w.heap.size + 1 + 1 + 1 < γ 6 := by have : w3.heap.size ≤ γ 6 := l9; omega
  have l10 : w.heap.size + 1 + 1 + 1 < γ 7 := by have : w3.heap.size ≤ γ 7 := l10; omega
  change γ 4 ≠ γ 5 at n1
  change γ 4 ≠ γ 6 at n2
  change γ 4 ≠ γ 7 at n3
  change γ 5 ≠ γ 6 at n4
  change γ 5 ≠ γ 7 at n5
  change γ 6 ≠ γ 7 at n6
  change Blk ww (γ 4) _ (num m) at B7
  change Blk ww (γ 5) _ (num a) at B8
  change Blk ww (γ 6) _ (num 0) at B9
  change Blk ww (γ 7) _ (num 1) at B10
  intro x1 _ x2 _ x3 _ x4 _ ht
  obtain ⟨t1, t2, t3, t4, -⟩ := ht
  change x1 = .pointer (some ⟨γ 4, 0, none⟩) at t1
  change x2 = .pointer (some ⟨γ 5, 0, none⟩) at t2
  change x3 = .pointer (some ⟨γ 6, 0, none⟩) at t3
  change x4 = .pointer (some ⟨γ 7, 0, none⟩) at t4
  subst t1 t2 t3 t4
  clear la lm hg HM3 hsz
  generalize γ 4 = g7 at *
  generalize γ 5 = g8 at *
  generalize γ 6 = g9 at *
  generalize γ 7 = g10 at *
  clear γ
  have HREL : Keep (InvRel w a b m 24 g7 g8 g9 g10 ww) := ⟨⟨m, a, 0, 1, Nat.le_refl m, ha1, ha, by omega, h1, by rw [Nat.gcd_comm]; exact HG.out, by rw [Nat.zero_mul, Nat.mod_self, Nat.zero_mod], by rw [Nat.one_mul], HM4.out, B7, B8, B9, B10⟩⟩
  clear B7 B8 B9 B10 HM4
  go_wp2_with fail
  go_loopw [] (fun wr => InvRel w a b m 24 g7 g8 g9 g10 wr) (fun wr => numOf wr g8)
  case atStart => exact HREL.out
  case round =>
    clear HREL
    obtain ⟨r, s, x, y, hr, hs, hsm, hx, hy, hgc, hxr, hys, M, B7, B8, B9, B10⟩ := hrel
    have HM := hide M
    have H7 := hide B7
    have H8 := hide B8
    have H9 := hide B9
    have H10 := hide B10
    clear M B7 B8 B9 B10
    have ls := load_growsN H8.out.drew
    have hneq := num_neq s 1 (by omega) (by unfold big; decide)
    by_cases hs1 : s = 1
    · rw [decide_eq_true hs1] at hneq
      have hinv : invN a m = y := invN_is hy (by rw [Nat.mul_comm, hys, hs1]; exact Nat.mod_eq_of_lt h1)
      have HI := hide hinv
      clear hr hs hsm hx hy hgc hxr hys hinv hs1 n1 n2 n3 n4 n5 n6
      go_wp2_with fail
      refine wp_region_kinds 3 (by kernel_rfl) (by kernel_rfl) (fun F hF => ?_)
      repeat (first
        | refine kinds_move_is _ rfl (Or.inl rfl) rfl ?_
        | refine kinds_move_is _ rfl (Or.inr rfl) rfl ?_
        | refine kinds_load 8 24 rfl rfl rfl ls ?_
        | refine kinds_off rfl rfl rfl rfl ?_
        | refine kinds_off' rfl rfl rfl ?_
        | ((first | refine kinds_on rfl rfl rfl ?_ | skip)
           apply kinds_is rfl
           · intro ρ wv K hw hf hK
             first | obtain ⟨e0, e1, e2, e3, e4, e5, e6, -⟩ := hf | obtain ⟨e0, e1, e2, e3, e4, e5, -⟩ := hf | obtain ⟨e0, e1, e2, e3, e4, -⟩ := hf | obtain ⟨e0, e1, e2, e3, -⟩ := hf | obtain ⟨e0, e1, e2, -⟩ := hf | obtain ⟨e0, e1, -⟩ := hf | obtain ⟨e0, -⟩ := hf | clear hf
             (try change ρ _ = _ at e0)
             (try change ρ _ = _ at e1)
             (try change ρ _ = _ at e2)
             (try change ρ _ = _ at e3)
             unfold gives
             go_simp
             first
               | (change Calls _ _ _ _ _; (go_at_call 33; (with_reducible refine (HOF.out _).mono ?_); rintro e w' ⟨rfl, hb⟩; exact ⟨_, rfl, hK _ hb⟩))
               | ((try go_ints); (try rw [if_pos (by omega)]); exact hK _ (Grows.refl _))))
      refine kinds_nil (hF _ rfl rfl (fun ww hg => ?_))
      clear hF F
      simp only [pushSlot, finish, Act.put, List.setIfInBounds_toArray, List.set_cons_succ, List.set_cons_zero]
      simp only [List.drop_succ_cons, List.drop_zero]
      have HM1 := hide (HM.out.drew.grow hg)
      have H101 := hide (H10.out.drew.below hg H10.out.drew.lt)
      clear hg ls HM H7 H8 H9 H10
      go_wp2_with (first | (refine wpList_load_row rfl 24 _ rfl g10 rfl 24 (num y) (0, 0) _ H101.out Try.underlying24 rfl info4 ?_) | (refine wpList_store_row rfl 24 (.tmp 6) (.tmp 50) rfl (w.heap.size + 1 + 1 + 1) (num y) rfl rfl 24 _ (HM1.out.R) info4 rfl (num_one _) ?_))
      have hS := HM1.out.R.setRow (num y)
      try rw [Exit.noGoto_ret]
      exact bodyPost_ret (results_num rfl rfl hS) rfl ⟨by rw [HI.out]; rfl, below_setRow HM1.out.below (by omega) _⟩
    · rw [decide_eq_false hs1] at hneq
      obtain ⟨p1, p2, p3, p4, p5, p6, p7⟩ := inv_step m a r s x y h1 hr (by omega) hx hgc hxr hys
      have hdiv := div_some r s (by omega) (by omega) (by omega)
      have htim := fun w => times_any (r / s) y m p1 hy hm w
      have hsub := fun w => msub_yes x (r / s * y % m) m hm h1 hx p5 w
      obtain ⟨q, eq⟩ : ∃ q : Nat, q = r / s := ⟨_, rfl⟩
      rw [← eq] at hdiv htim hsub p1 p5 p6 p7
      obtain ⟨l, el⟩ : ∃ l : Nat, l = r % s := ⟨_, rfl⟩
      rw [← el] at hdiv p2 p3 p4 p7
      obtain ⟨u, eu⟩ : ∃ u : Nat, u = q * y % m := ⟨_, rfl⟩
      rw [← eu] at htim hsub p5 p6 p7
      obtain ⟨z, ez⟩ : ∃ z : Nat, z = (x + m - u) % m := ⟨_, rfl⟩
      rw [← ez] at hsub p6 p7
      have HDIV := hide hdiv
      have HTIM := hide htim
      have HSUB := hide hsub
      have HP := hide (And.intro p2 (And.intro p3 (And.intro p4 (And.intro p6 p7))))
      have HYS := hide (And.intro hys (And.intro hy hsm))
      clear hdiv htim hsub p1 p2 p3 p4 p5 p6 p7 eq el eu ez hr hs hx hgc hxr hys hs1 hy
      go_wp2_with fail
      refine wp_region_kinds 3 (by kernel_rfl) (by kernel_rfl) (fun F hF => ?_)
      repeat (first
        | refine kinds_move_is _ rfl (Or.inl rfl) rfl ?_
        | refine kinds_move_is _ rfl (Or.inr rfl) rfl ?_
        | refine kinds_load 8 24 rfl rfl rfl ls ?_
        | refine kinds_off rfl rfl rfl rfl ?_
        | refine kinds_off' rfl rfl rfl ?_
        | ((first | refine kinds_on rfl rfl rfl ?_ | skip)
           apply kinds_is rfl
           · intro ρ wv K hw hf hK
             first | obtain ⟨e0, e1, e2, e3, e4, e5, e6, -⟩ := hf | obtain ⟨e0, e1, e2, e3, e4, e5, -⟩ := hf | obtain ⟨e0, e1, e2, e3, e4, -⟩ := hf | obtain ⟨e0, e1, e2, e3, -⟩ := hf | obtain ⟨e0, e1, e2, -⟩ := hf | obtain ⟨e0, e1, -⟩ := hf | obtain ⟨e0, -⟩ := hf | clear hf
             (try change ρ _ = _ at e0)
             (try change ρ _ = _ at e1)
             (try change ρ _ = _ at e2)
             (try change ρ _ = _ at e3)
             unfold gives
             go_simp
             first
               | (change Calls _ _ _ _ _; (go_at_call 33; (with_reducible refine (HOF.out _).mono ?_); rintro e w' ⟨rfl, hb⟩; exact ⟨_, rfl, hK _ hb⟩))
               | ((try go_ints); (try rw [if_pos (by omega)]); exact hK _ (Grows.refl _))))
      refine kinds_nil (hF _ rfl rfl (fun ww hg => ?_))
      clear hF F
      simp only [pushSlot, finish, Act.put, List.setIfInBounds_toArray, List.set_cons_succ, List.set_cons_zero]
      simp only [List.drop_succ_cons, List.drop_zero]
      have HN := hide (numOf_is H8.out (show s < big by omega))
      have HM1 := hide (HM.out.drew.grow hg)
      have H71 := hide (H7.out.drew.below hg H7.out.drew.lt)
      have H81 := hide (H8.out.drew.below hg H8.out.drew.lt)
      have H91 := hide (H9.out.drew.below hg H9.out.drew.lt)
      have H101 := hide (H10.out.drew.below hg H10.out.drew.lt)
      clear hg ls HM H7 H8 H9 H10 hneq
      go_wp2_with (first | (refine wpList_load_row rfl 24 _ rfl g7 rfl 24 (num r) (0, 0) _ H71.out Try.underlying24 rfl info4 ?_) | (refine wpList_load_row rfl 24 _ rfl g8 rfl 24 (num s) (0, 0) _ H81.out Try.underlying24 rfl info4 ?_) | fail)
      with_reducible refine (HDIV.out _).mono ?_
      rintro e w4 ⟨rfl, L⟩
      have HM2 := hide (HM1.out.grow L)
      have H72 := hide (H71.out.below L H71.out.lt)
      have H82 := hide (H81.out.below L H81.out.lt)
      have H92 := hide (H91.out.below L H91.out.lt)
      have H102 := hide (H101.out.below L H101.out.lt)
      clear L HM1 H71 H81 H91 H101 HDIV
      have hl7 := H72.out.lt
      have hl8 := H82.out.lt
      have hl9 := H92.out.lt
      have hl10 := H102.out.lt
      obtain ⟨b1, b2, b3, b4, b5⟩ := boxes_two w4 24 (num q) (num l)
      have HB1 := hide b1
      have HB22 := hide b2
      clear b1 b2
      go_wp2_with (first
        | (refine wpList_store_row rfl 24 (.tmp 11) (.tmp 33) rfl w4.heap.size (num q) rfl rfl 24 _ HB1.out info4 rfl (num_one _) ?_)
        | (refine wpList_store_row rfl 24 (.tmp 12) (.tmp 34) rfl (w4.heap.size + 1) (num l) rfl rfl 24 _ HB22.out info4 rfl (num_one _) ?_))
      change Code.wp _ _ _ _ ((((w4.alloc (.cells nought 24)).alloc (.cells nought 24)).setRow w4.heap.size (num q)).setRow (w4.heap.size + 1) (num l))
      generalize (((w4.alloc (.cells nought 24)).alloc (.cells nought 24)).setRow w4.heap.size (num q)).setRow (w4.heap.size + 1) (num l) = w5 at *
      have HM3 := hide (HM2.out.grow b5)
      have H73 := hide (H72.out.below b5 hl7)
      have H83 := hide (H82.out.below b5 hl8)
      have H93 := hide (H92.out.below b5 hl9)
      have H103 := hide (H102.out.below b5 hl10)
      obtain ⟨gq, hgq⟩ : ∃ gq : Nat, gq = w4.heap.size := ⟨_, rfl⟩
      rw [← hgq] at b3 b4 hl7 hl8 hl9 hl10 ⊢
      have HQ3 := hide b3
      have HL3 := hide b4
      clear b3 b4 b5 HB1 HB22 HM2 H72 H82 H92 H102 hgq
      have lx := load_growsN H93.out.drew
      have lq := load_growsN HQ3.out.drew
      have ly := load_growsN H103.out.drew
      have lm := load_growsN HM3.out.M.drew
      refine wp_region_kindsF [⟨10, 11, 24, nought, num z⟩] (by kernel_rfl) (by kernel_rfl) (fun F hF => ?_)
      repeat (first
        | refine kindsF_move_is _ rfl rfl (Or.inl rfl) rfl ?_
        | refine kindsF_move_is _ rfl rfl (Or.inr rfl) rfl ?_
        | refine kindsF_load 9 24 rfl rfl rfl rfl lx ?_
        | refine kindsF_load 11 24 rfl rfl rfl rfl lq ?_
        | refine kindsF_load 10 24 rfl rfl rfl rfl ly ?_
        | refine kindsF_load 5 24 rfl rfl rfl rfl lm ?_
        | refine kindsF_alloc 24 11 nought (num z) rfl rfl (List.Mem.head _) alloc_num ?_
        | refine kindsF_store 14 44 24 10 nought (num z) rfl rfl rfl rfl rfl (List.Mem.head _) (store_num z) ?_
        | (apply kindsF_is rfl rfl
           · intro ρ wv K hw hf hK
             first | obtain ⟨e0, e1, e2, e3, e4, e5, e6, -⟩ := hf | obtain ⟨e0, e1, e2, e3, e4, e5, -⟩ := hf | obtain ⟨e0, e1, e2, e3, e4, -⟩ := hf | obtain ⟨e0, e1, e2, e3, -⟩ := hf | obtain ⟨e0, e1, e2, -⟩ := hf | obtain ⟨e0, e1, -⟩ := hf | obtain ⟨e0, -⟩ := hf | clear hf
             (try change ρ _ = _ at e0)
             (try change ρ _ = _ at e1)
             (try change ρ _ = _ at e2)
             (try change ρ _ = _ at e3)
             unfold gives
             go_simp
             first
               | (change Calls _ _ _ _ _; (go_at_call 57; (with_reducible refine (HTIM.out _).mono ?_); rintro e w' ⟨rfl, hb⟩; exact ⟨_, rfl, hK _ hb⟩))
               | (change Calls _ _ _ _ _; (go_at_call 37; (with_reducible refine (HSUB.out _).mono ?_); rintro e w' ⟨rfl, hb⟩; exact ⟨_, rfl, hK _ hb⟩))
               | ((try go_ints); (try rw [if_pos (by omega)]); exact hK _ (Grows.refl _))))
      refine kindsF_nil (hF _ rfl rfl (fun ww γ hg hfr hun => ?_))
      clear hF F
      simp only [pushSlot, finish, Act.put, List.setIfInBounds_toArray, List.set_cons_succ, List.set_cons_zero]
      obtain ⟨⟨l14, B14⟩, -⟩ := hfr
      change Blk ww (γ 10) _ (num z) at B14
      have hl5 := HL3.out.lt
      have l14 : gq + 1 < γ 10 := by have : w5.heap.size ≤ γ 10 := l14; omega
      have HM4 := hide (HM3.out.drew.grow hg)
      have H74 := hide (H73.out.drew.below hg H73.out.drew.lt)
      have H84 := hide (H83.out.drew.below hg H83.out.drew.lt)
      have H94 := hide (H93.out.drew.below hg H93.out.drew.lt)
      have H104 := hide (H103.out.drew.below hg H103.out.drew.lt)
      have HL4 := hide (HL3.out.drew.below hg HL3.out.drew.lt)
      intro x1 _ ht
      obtain ⟨t1, -⟩ := ht
      change x1 = .pointer (some ⟨γ 10, 0, none⟩) at t1
      subst t1
      clear lx lq ly lm hg hun HM3 H73 H83 H93 H103 HQ3 HL3 HTIM HSUB hl5
      generalize γ 10 = g14 at *
      clear γ
      go_wp2_with fail
      have ll := load_butN (rows := [g7, g8, g9, g10]) (Blk.drew HL4.out) (notin4 (by omega) (by omega) (by omega) (by omega))
      have lz := load_butN (rows := [g7, g8, g9, g10]) (Blk.drew B14) (notin4 (by omega) (by omega) (by omega) (by omega))
      have he : Effs [effRow 4 g7 24 (num r) (num s), effRow 5 g8 24 (num s) (num l), effRow 6 g9 24 (num x) (num y), effRow 7 g10 24 (num y) (num z)] ww.drew :=
        effs_rows [⟨4, g7, 24, num r, num s⟩, ⟨5, g8, 24, num s, num l⟩, ⟨6, g9, 24, num x, num y⟩, ⟨7, g10, 24, num y, num z⟩] (by simp [n1, n2, n3, n4, n5, n6]) (by
          intro e he
          simp only [List.mem_cons, List.not_mem_nil, or_false] at he
          rcases he with rfl | rfl | rfl | rfl
          · exact H74.out.drew
          · exact H84.out.drew
          · exact H94.out.drew
          · exact H104.out.drew)
      refine wp_region_kindsR [g7, g8, g9, g10] [effRow 4 g7 24 (num r) (num s), effRow 5 g8 24 (num s) (num l), effRow 6 g9 24 (num x) (num y), effRow 7 g10 24 (num y) (num z)] (by kernel_rfl) (by kernel_rfl) he rfl (fun F hF => ?_)
      repeat (first
        | refine kindsR_move_is _ rfl rfl (Or.inl rfl) rfl ?_
        | refine kindsR_move_is _ rfl rfl (Or.inr rfl) rfl ?_
        | refine kindsR_preload 8 24 (effRow 5 g8 24 (num s) (num l)) (List.Mem.tail _ (List.Mem.head _)) (by kernel_rfl) rfl rfl rfl rfl (fun w' h => load_numN h) ?_
        | refine kindsR_preload 10 24 (effRow 7 g10 24 (num y) (num z)) (List.Mem.tail _ (List.Mem.tail _ (List.Mem.tail _ (List.Mem.head _)))) (by kernel_rfl) rfl rfl rfl rfl (fun w' h => load_numN h) ?_
        | refine kindsR_load 12 24 rfl rfl rfl rfl ll ?_
        | refine kindsR_load 14 24 rfl rfl rfl rfl lz ?_
        | refine kindsR_row 7 46 24 g7 24 (num r) (num s) rfl rfl rfl rfl rfl (List.Mem.head _) (List.Mem.head _) info4 rfl (num_one _) ?_
        | refine kindsR_row 8 47 24 g8 24 (num s) (num l) rfl rfl rfl rfl rfl (List.Mem.tail _ (List.Mem.head _)) (List.Mem.tail _ (List.Mem.head _)) info4 rfl (num_one _) ?_
        | refine kindsR_row 9 48 24 g9 24 (num x) (num y) rfl rfl rfl rfl rfl (List.Mem.tail _ (List.Mem.tail _ (List.Mem.head _))) (List.Mem.tail _ (List.Mem.tail _ (List.Mem.head _))) info4 rfl (num_one _) ?_
        | refine kindsR_row 10 49 24 g10 24 (num y) (num z) rfl rfl rfl rfl rfl (List.Mem.tail _ (List.Mem.tail _ (List.Mem.tail _ (List.Mem.head _)))) (List.Mem.tail _ (List.Mem.tail _ (List.Mem.tail _ (List.Mem.head _)))) info4 rfl (num_one _) ?_
        | (apply kindsR_is rfl rfl
           · intro ρ wv K hw hf hK
             first | obtain ⟨e0, e1, e2, e3, e4, e5, e6, -⟩ := hf | obtain ⟨e0, e1, e2, e3, e4, e5, -⟩ := hf | obtain ⟨e0, e1, e2, e3, e4, -⟩ := hf | obtain ⟨e0, e1, e2, e3, -⟩ := hf | obtain ⟨e0, e1, e2, -⟩ := hf | obtain ⟨e0, e1, -⟩ := hf | obtain ⟨e0, -⟩ := hf | clear hf
             (try change ρ _ = _ at e0)
             (try change ρ _ = _ at e1)
             (try change ρ _ = _ at e2)
             (try change ρ _ = _ at e3)
             unfold gives
             go_simp
             (try go_ints)
             (try rw [if_pos (by omega)])
             exact hK _ (Grows.refl _)))
      refine kindsR_nil (hF _ rfl rfl (fun ww hg hfx => ?_))
      clear hF F
      simp only [pushSlot, finish, Act.put, List.setIfInBounds_toArray, List.set_cons_succ, List.set_cons_zero]
      have A7 : Blk ww g7 24 (num s) := hfx _ (List.Mem.head _)
      have A8 : Blk ww g8 24 (num l) := hfx _ (List.Mem.tail _ (List.Mem.head _))
      have A9 : Blk ww g9 24 (num y) := hfx _ (List.Mem.tail _ (List.Mem.tail _ (List.Mem.head _)))
      have A10 : Blk ww g10 24 (num z) := hfx _ (List.Mem.tail _ (List.Mem.tail _ (List.Mem.tail _ (List.Mem.head _))))
      have M5 := HM4.out.drew.but hg (fun g hgm => by simp only [List.mem_cons, List.not_mem_nil, or_false] at hgm; omega)
      obtain ⟨p2, p3, p4, p6, p7⟩ := HP.out
      obtain ⟨hys, hy, hsm⟩ := HYS.out
      have HB0' := hide (show numOf ww g8 < numOf wr g8 by rw [numOf_is A8 (by omega), HN.out]; exact p3)
      have HREL : Keep (InvRel w a b m 24 g7 g8 g9 g10 ww) := ⟨⟨s, l, y, z, by omega, p2, by omega, hy, p6, p4, hys, p7, M5, A7, A8, A9, A10⟩⟩
      clear hg hfx A7 A8 A9 A10 M5 ll lz p2 p3 p4 p6 p7 hys hy hsm
      go_wp2_with fail
      go_roundw
      case rel => exact HREL.out
      case measure => exact HB0'.out
end Go.Proofs.Ythdanjbgbbcafaa
