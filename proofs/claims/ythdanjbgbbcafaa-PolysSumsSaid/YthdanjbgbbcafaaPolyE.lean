/- polys: slices.Index, Contains of numbers. -/
import Derived.Test.YthdanjbgbbcafaaPolyD
namespace Go.Proofs.Ythdanjbgbbcafaa
open Go Go.RowKit

open Classical in
/-- Where a number stands first; -1, where it does not. -/
noncomputable def idxN (l : List Nat) (x : Nat) : Int := if h : ∃ k : Nat, l[k]? = some x ∧ ∀ j, j < k → l[j]? ≠ some x then (Classical.choose h : Nat) else -1
theorem idxN_at {l : List Nat} {x k : Nat} (h : l[k]? = some x) (hno : ∀ j, j < k → l[j]? ≠ some x) : idxN l x = (k : Nat) := by
  have hx : ∃ k : Nat, l[k]? = some x ∧ ∀ j, j < k → l[j]? ≠ some x := ⟨k, h, hno⟩
  unfold idxN
  rw [dif_pos hx]
  obtain ⟨h1, h2⟩ := Classical.choose_spec hx
  generalize Classical.choose hx = c at *
  rcases Nat.lt_trichotomy c k with h3 | h3 | h3
  · exact absurd h1 (hno c h3)
  · rw [h3]
  · exact absurd h (h2 k h3)
theorem idxN_none {l : List Nat} {x : Nat} (hno : ∀ j, j < l.length → l[j]? ≠ some x) : idxN l x = -1 := by
  unfold idxN
  rw [dif_neg]
  rintro ⟨k, h, _⟩
  exact hno k (List.getElem?_eq_some_iff.1 h).1 h
theorem first_ex {x : Nat} : ∀ {l : List Nat}, x ∈ l → ∃ k : Nat, l[k]? = some x ∧ ∀ j, j < k → l[j]? ≠ some x
  | [], h => by cases h
  | y :: l, h => by
    by_cases e : y = x
    · exact ⟨0, by rw [e]; rfl, fun j hj => absurd hj (Nat.not_lt_zero j)⟩
    · have hm : x ∈ l := by
        rcases List.mem_cons.1 h with h | h
        · exact absurd h.symm e
        · exact h
      obtain ⟨k, h1, h2⟩ := first_ex hm
      refine ⟨k + 1, by simpa using h1, fun j hj => ?_⟩
      cases j with
      | zero => simpa using e
      | succ j => simpa using h2 j (by omega)
theorem idxN_mem (l : List Nat) (x : Nat) : 0 ≤ idxN l x ↔ x ∈ l := by
  constructor
  · intro h
    unfold idxN at h
    split at h
    · rename_i hx
      exact List.mem_of_getElem? (Classical.choose_spec hx).1
    · omega
  · intro h
    obtain ⟨k, h1, h2⟩ := first_ex h
    rw [idxN_at h1 h2]
    omega
def IdxRel (w : World) (x n : Nat) (ns : List Nat) (t24 : TypeId) (vi : Value) (wr : World) : Prop :=
  ∃ k : Nat, k ≤ n ∧ vi = .int .i64 (k : Nat) ∧ Grows w wr ∧ Blk wr w.heap.size t24 (num x) ∧ ∀ j, j < k → ns[j]? ≠ some x
set_option maxRecDepth 100000 in
set_option maxHeartbeats 4000000 in
theorem index_any (A : Option Addr) (cap : Nat) (ns : List Nat) (x : Nat) (hx : x < big) (hlen : ns.length < 9223372036854775808) (w : World) (hns : NumsAt w A ns) :
    Calls Try.prog 71 #[.slice A ns.length cap, .agg (num x)] w (IntEnds w (idxN ns x)) := by
  obtain ⟨n, hn⟩ : ∃ n : Nat, n = ns.length := ⟨_, rfl⟩
  rw [← hn] at hlen ⊢
  go_enter Try.func71, Try.ntmps71
  go_upto_region 1 with fail
  have a1 := Blk.new w 24 (num x)
  have hL0 : Grows w (w.alloc (.cells (num x) 24)) := (Below.refl _ _).alloc (Nat.le_refl _) _
  change Code.wp _ _ _ _ (w.alloc (.cells (num x) 24))
  generalize w.alloc (.cells (num x) 24) = w1 at *
  have HST : Keep (IdxRel w x n ns 24 (.int .i64 (0 : Nat)) w1) := ⟨⟨0, Nat.zero_le _, rfl, hL0, a1, fun j h => absurd h (Nat.not_lt_zero j)⟩⟩
  have HN := hide hn
  have HNS := hide hns
  clear a1 hL0 hn hns
  go_wp2_with fail
  go_loopw [8] (fun vi wr => IdxRel w x n ns 24 vi wr) (fun i _ => n - (intOf i).toNat)
  case atStart => exact HST.out
  case round =>
    clear HST
    obtain ⟨k, hk, rfl, hL, hA, hno⟩ := hrel
    have KL := hide hL
    have KA := hide hA
    have KO := hide hno
    clear hL hA hno
    by_cases hkn : k < n
    · obtain ⟨y, hy⟩ : ∃ y, ns[k]? = some y := ⟨_, List.getElem?_eq_getElem (by have := HN.out; omega)⟩
      obtain ⟨hyb, b, o, eA, hlt, hrng⟩ := (HNS.out.grow KL.out) k y hy
      subst eA
      have HR := hide hrng
      have HY := hide hy
      have heq := num_eql x y hx hyb
      clear hrng hy
      go_upto_region 4 with fail
      have la := load_growsN KA.out.drew
      have ly : ∀ w', Grows wr.drew w' → (Instr.loadAt 24 (.pointer (some ⟨b, o + k * 4, none⟩))).run Try.prog w' = .ok (.agg (num y)) w' := fun w' hg => by
        have h := run_loadAt_mid (P := Try.prog) w' b (o + k * 4) 24 (num y).toList _ (fun j v hv => by
          have := HR.out j v hv
          unfold World.cell? at this ⊢
          rw [hg.block b hlt]
          exact this) Try.underlying24 rfl (by rw [Array.length_toList, num_size]; exact info4)
        rw [Array.toArray_toList] at h
        exact h
      have hd : Grows wr wr.drew := Below.drew (Below.refl _ wr)
      by_cases e : x = y
      · rw [decide_eq_true e] at heq
        have HI : Keep (idxN ns x = (k : Nat)) := ⟨idxN_at (by rw [HY.out, e]) KO.out⟩
        clear e
        refine wp_region_kinds 6 (by kernel_rfl) (by kernel_rfl) (fun F hF => ?_)
        repeat (first
          | refine kinds_move_is _ rfl (Or.inl rfl) rfl ?_
          | refine kinds_move_is _ rfl (Or.inr rfl) rfl ?_
          | refine kinds_load 3 24 rfl rfl rfl la ?_
          | refine kinds_load 14 24 rfl rfl rfl ly ?_
          | refine kinds_off rfl rfl rfl rfl ?_
          | refine kinds_off' rfl rfl rfl ?_
          | ((first | refine kinds_on rfl rfl rfl ?_ | skip)
             apply kinds_is rfl
             · intro ρ wv K hw hf hK
               first | obtain ⟨e0, e1, e2, e3, e4, e5, e6, -⟩ := hf | obtain ⟨e0, e1, e2, e3, e4, e5, -⟩ := hf | obtain ⟨e0, e1, e2, e3, e4, -⟩ := hf | obtain ⟨e0, e1, e2, e3, -⟩ := hf | obtain ⟨e0, e1, e2, -⟩ := hf | obtain ⟨e0, e1, -⟩ := hf | obtain ⟨e0, -⟩ := hf | clear hf
               (try change ρ _ = _ at e0)
               (try change ρ _ = _ at e1)
               (try change ρ _ = _ at e2)
               (try change ρ _ = _ at e3)
               unfold gives
               go_simp
               (try go_ints)
               (try rw [if_pos (by omega)])
               exact hK _ (Grows.refl _)))
        refine kinds_nil (hF _ rfl rfl (fun ww hg => ?_))
        clear hF F
        simp only [pushSlot, finish, Act.put, List.setIfInBounds_toArray, List.set_cons_succ, List.set_cons_zero]
        simp only [List.drop_succ_cons, List.drop_zero]
        have KL1 := hide (Grows.trans KL.out (Grows.trans hd hg))
        clear hg la ly hd heq
        go_wp2_with fail
        try rw [Exit.noGoto_ret]
        exact bodyPost_ret (by kernel_rfl) rfl ⟨by rw [HI.out], KL1.out⟩
      · rw [decide_eq_false e] at heq
        have KO1 : Keep (∀ j, j < k + 1 → ns[j]? ≠ some x) := ⟨fun j hj => by
          by_cases hjk : j = k
          · rw [hjk, HY.out]
            exact fun h => e (Option.some.inj h).symm
          · exact KO.out j (by omega)⟩
        clear e
        refine wp_region_kinds 6 (by kernel_rfl) (by kernel_rfl) (fun F hF => ?_)
        repeat (first
          | refine kinds_move_is _ rfl (Or.inl rfl) rfl ?_
          | refine kinds_move_is _ rfl (Or.inr rfl) rfl ?_
          | refine kinds_load 3 24 rfl rfl rfl la ?_
          | refine kinds_load 14 24 rfl rfl rfl ly ?_
          | refine kinds_off rfl rfl rfl rfl ?_
          | refine kinds_off' rfl rfl rfl ?_
          | ((first | refine kinds_on rfl rfl rfl ?_ | skip)
             apply kinds_is rfl
             · intro ρ wv K hw hf hK
               first | obtain ⟨e0, e1, e2, e3, e4, e5, e6, -⟩ := hf | obtain ⟨e0, e1, e2, e3, e4, e5, -⟩ := hf | obtain ⟨e0, e1, e2, e3, e4, -⟩ := hf | obtain ⟨e0, e1, e2, e3, -⟩ := hf | obtain ⟨e0, e1, e2, -⟩ := hf | obtain ⟨e0, e1, -⟩ := hf | obtain ⟨e0, -⟩ := hf | clear hf
               (try change ρ _ = _ at e0)
               (try change ρ _ = _ at e1)
               (try change ρ _ = _ at e2)
               (try change ρ _ = _ at e3)
               unfold gives
               go_simp
               (try go_ints)
               (try rw [if_pos (by omega)])
               exact hK _ (Grows.refl _)))
        refine kinds_nil (hF _ rfl rfl (fun ww hg => ?_))
        clear hF F
        simp only [pushSlot, finish, Act.put, List.setIfInBounds_toArray, List.set_cons_succ, List.set_cons_zero]
        simp only [List.drop_succ_cons, List.drop_zero]
        have KL1 := hide (Grows.trans KL.out (Grows.trans hd hg))
        have KA1 := hide (KA.out.drew.below hg KA.out.drew.lt)
        clear hg la ly hd heq KL KA KO
        go_wp2_with fail
        go_roundw
        case rel => exact ⟨k + 1, by omega, by go_num, KL1.out, KA1.out, KO1.out⟩
        case measure => simp [intOf]; omega
    · have hkn' : k = n := by omega
      have HI : Keep (idxN ns x = -1) := ⟨idxN_none (fun j hj => KO.out j (by have := HN.out; omega))⟩
      clear hkn
      subst hkn'
      go_wp2_with fail
      try rw [Exit.noGoto_ret]
      exact bodyPost_ret (by kernel_rfl) rfl ⟨by rw [HI.out], KL.out⟩
set_option maxRecDepth 100000 in
set_option maxHeartbeats 4000000 in
theorem contains_any (A : Option Addr) (cap : Nat) (ns : List Nat) (x : Nat) (hx : x < big) (hlen : ns.length < 9223372036854775808) (w : World) (hns : NumsAt w A ns) :
    Calls Try.prog 47 #[.slice A ns.length cap, .agg (num x)] w (BoolEnds w (decide (x ∈ ns))) := by
  have hlaw := idxN_mem ns x
  go_enter Try.func47, Try.ntmps47
  go_upto_region 1 with fail
  have a1 := Blk.new w 24 (num x)
  have hL0 : Grows w (w.alloc (.cells (num x) 24)) := (Below.refl _ _).alloc (Nat.le_refl _) _
  change Code.wp _ _ _ _ (w.alloc (.cells (num x) 24))
  generalize w.alloc (.cells (num x) 24) = w1 at *
  have KA := hide a1
  have KL := hide hL0
  have KN := hide (hns.grow hL0)
  clear a1 hL0 hns
  go_wp2_with (first | (refine wpList_load_row rfl 24 _ rfl (w.heap.size) rfl 24 (num x) (0, 0) _ KA.out Try.underlying24 rfl info4 ?_) | fail)
  with_reducible refine (index_any A cap ns x hx hlen _ KN.out).mono ?_
  rintro e w2 ⟨rfl, L⟩
  have KL2 := hide (Grows.trans KL.out L)
  clear L KL KA KN
  generalize idxN ns x = c at *
  have e1 : decide (x ∈ ns) = decide (0 ≤ c) := decide_eq_decide.2 hlaw.symm
  clear hlaw
  go_wp2_with fail
  exact bodyPost_ret (by kernel_rfl) rfl ⟨by rw [e1], KL2.out⟩
end Go.Proofs.Ythdanjbgbbcafaa
