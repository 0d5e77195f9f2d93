/- SameNums: walked. -/
import Derived.Test.YthdanjbgbbcafaaPolyF
namespace Go.Proofs.Ythdanjbgbbcafaa
open Go Go.RowKit

def SameRel (w : World) (n : Nat) (xs ys : List Nat) (vi : Value) (wr : World) : Prop :=
  ∃ k : Nat, k ≤ n ∧ vi = .int .i64 (k : Nat) ∧ Grows w wr ∧ ∀ j, j < k → xs[j]? = ys[j]?
theorem load_grown {w : World} {b o x : Nat} (hlt : b < w.heap.size) (HR : w.rangeAt b o (num x).toList) : ∀ w', Grows w w' → (Instr.loadAt 24 (.pointer (some ⟨b, o, none⟩))).run Try.prog w' = .ok (.agg (num x)) w' := fun w' hg => by
  have h := run_loadAt_mid (P := Try.prog) w' b o 24 (num x).toList _ (fun j v hv => by
    have := HR j v hv
    unfold World.cell? at this ⊢
    rw [hg.block b hlt]
    exact this) Try.underlying24 rfl (by rw [Array.length_toList, num_size]; exact info4)
  rw [Array.toArray_toList] at h
  exact h
set_option maxRecDepth 100000 in
set_option maxHeartbeats 4000000 in
theorem sameNums_any (A B : Option Addr) (c d : Nat) (xs ys : List Nat) (hlen : xs.length < 9223372036854775808) (w : World) (hxs : NumsAt w A xs) (hys : NumsAt w B ys) :
    Calls Try.prog 13 #[.slice A xs.length c, .slice B ys.length d] w (BoolEnds w (decide (xs = ys))) := by
  by_cases hl : xs.length = ys.length
  · obtain ⟨n, hn⟩ : ∃ n : Nat, n = xs.length := ⟨_, rfl⟩
    rw [← hl, ← hn]
    rw [← hn] at hlen hl
    have HN := hide hn
    have HL := hide hl
    have HX := hide hxs
    have HY := hide hys
    clear hn hl hxs hys
    go_enter Try.func13, Try.ntmps13
    go_wp2_with fail
    go_loopw [5] (fun vi wr => SameRel w n xs ys vi wr) (fun i _ => n - (intOf i).toNat)
    case atStart => exact ⟨0, Nat.zero_le _, rfl, Grows.refl w, fun j h => absurd h (Nat.not_lt_zero j)⟩
    case round =>
      obtain ⟨k, hk, rfl, hL, hno⟩ := hrel
      have KL := hide hL
      have KO := hide hno
      clear hL hno
      by_cases hkn : k < n
      · obtain ⟨x, hx⟩ : ∃ x, xs[k]? = some x := ⟨_, List.getElem?_eq_getElem (by have := HN.out; omega)⟩
        obtain ⟨y, hy⟩ : ∃ y, ys[k]? = some y := ⟨_, List.getElem?_eq_getElem (by have := HL.out; omega)⟩
        obtain ⟨hxb, b, o, eA, hlt, hr⟩ := (HX.out.grow KL.out) k x hx
        obtain ⟨hyb, b', o', eB, hlt', hr'⟩ := (HY.out.grow KL.out) k y hy
        subst eA eB
        have HA := hide hx
        have HB := hide hy
        have heq := num_neq x y hxb hyb
        have hd : Grows wr wr.drew := Below.drew (Below.refl _ wr)
        have lx : ∀ w', Grows wr.drew w' → _ := fun w' hg => load_grown hlt hr w' (Grows.trans hd hg)
        have ly : ∀ w', Grows wr.drew w' → _ := fun w' hg => load_grown hlt' hr' w' (Grows.trans hd hg)
        clear hr hr' hx hy hlt hlt'
        go_wp2_with fail
        by_cases e : x = y
        · rw [decide_eq_true e] at heq
          have KO1 : Keep (∀ j, j < k + 1 → xs[j]? = ys[j]?) := ⟨fun j hj => by
            by_cases hjk : j = k
            · rw [hjk, HA.out, HB.out, e]
            · exact KO.out j (by omega)⟩
          clear e
          refine wp_region_kinds 9 (by kernel_rfl) (by kernel_rfl) (fun F hF => ?_)
          repeat (first
            | refine kinds_move_is _ rfl (Or.inl rfl) rfl ?_
            | refine kinds_move_is _ rfl (Or.inr rfl) rfl ?_
            | refine kinds_load 19 24 rfl rfl rfl lx ?_
            | refine kinds_load 23 24 rfl rfl rfl ly ?_
            | refine kinds_off rfl rfl rfl rfl ?_
            | refine kinds_off' rfl rfl rfl ?_
            | ((first | refine kinds_on rfl rfl rfl ?_ | skip)
               apply kinds_is rfl
               · intro ρ wv K hw hf hK
                 first | obtain ⟨e0, e1, e2, e3, e4, e5, e6, -⟩ := hf | obtain ⟨e0, e1, e2, e3, e4, e5, -⟩ := hf | obtain ⟨e0, e1, e2, e3, e4, -⟩ := hf | obtain ⟨e0, e1, e2, e3, -⟩ := hf | obtain ⟨e0, e1, e2, -⟩ := hf | obtain ⟨e0, e1, -⟩ := hf | obtain ⟨e0, -⟩ := hf | clear hf
                 (try change ρ _ = _ at e0)
                 (try change ρ _ = _ at e1)
                 (try change ρ _ = _ at e2)
                 (try change ρ _ = _ at e3)
                 unfold gives
                 go_simp
                 (try go_ints)
                 (try rw [if_pos (by omega)])
                 exact hK _ (Grows.refl _)))
          refine kinds_nil (hF _ rfl rfl (fun ww hg => ?_))
          clear hF F
          simp only [pushSlot, finish, Act.put, List.setIfInBounds_toArray, List.set_cons_succ, List.set_cons_zero]
          simp only [List.drop_succ_cons, List.drop_zero]
          have KL1 := hide (Grows.trans KL.out (Grows.trans hd hg))
          clear hg lx ly hd heq KL KO
          go_wp2_with fail
          go_roundw
          case rel => exact ⟨k + 1, by omega, by go_num, KL1.out, KO1.out⟩
          case measure => simp [intOf]; omega
        · rw [decide_eq_false e] at heq
          have HD : Keep (decide (xs = ys) = false) := ⟨decide_eq_false (fun h => by
            rw [h] at HA
            exact e (Option.some.inj (HA.out.symm.trans HB.out)))⟩
          clear e
          refine wp_region_kinds 9 (by kernel_rfl) (by kernel_rfl) (fun F hF => ?_)
          repeat (first
            | refine kinds_move_is _ rfl (Or.inl rfl) rfl ?_
            | refine kinds_move_is _ rfl (Or.inr rfl) rfl ?_
            | refine kinds_load 19 24 rfl rfl rfl lx ?_
            | refine kinds_load 23 24 rfl rfl rfl ly ?_
            | refine kinds_off rfl rfl rfl rfl ?_
            | refine kinds_off' rfl rfl rfl ?_
            | ((first | refine kinds_on rfl rfl rfl ?_ | skip)
               apply kinds_is rfl
               · intro ρ wv K hw hf hK
                 first | obtain ⟨e0, e1, e2, e3, e4, e5, e6, -⟩ := hf | obtain ⟨e0, e1, e2, e3, e4, e5, -⟩ := hf | obtain ⟨e0, e1, e2, e3, e4, -⟩ := hf | obtain ⟨e0, e1, e2, e3, -⟩ := hf | obtain ⟨e0, e1, e2, -⟩ := hf | obtain ⟨e0, e1, -⟩ := hf | obtain ⟨e0, -⟩ := hf | clear hf
                 (try change ρ _ = _ at e0)
                 (try change ρ _ = _ at e1)
                 (try change ρ _ = _ at e2)
                 (try change ρ _ = _ at e3)
                 unfold gives
                 go_simp
                 (try go_ints)
                 (try rw [if_pos (by omega)])
                 exact hK _ (Grows.refl _)))
          refine kinds_nil (hF _ rfl rfl (fun ww hg => ?_))
          clear hF F
          simp only [pushSlot, finish, Act.put, List.setIfInBounds_toArray, List.set_cons_succ, List.set_cons_zero]
          simp only [List.drop_succ_cons, List.drop_zero]
          have KL1 := hide (Grows.trans KL.out (Grows.trans hd hg))
          clear hg lx ly hd heq KL KO
          go_wp2_with fail
          try rw [Exit.noGoto_ret]
          exact bodyPost_ret (by kernel_rfl) rfl ⟨by rw [HD.out], KL1.out⟩
      · have hkn' : k = n := by omega
        have HD : Keep (decide (xs = ys) = true) := ⟨decide_eq_true (List.ext_getElem? fun j => by
          by_cases hj : j < n
          · exact KO.out j (by omega)
          · rw [List.getElem?_eq_none (by have := HN.out; omega), List.getElem?_eq_none (by have := HL.out; omega)])⟩
        clear hkn
        subst hkn'
        go_wp2_with fail
        try rw [Exit.noGoto_ret]
        exact bodyPost_ret (by kernel_rfl) rfl ⟨by rw [HD.out], KL.out⟩
  · have HD : Keep (decide (xs = ys) = false) := ⟨decide_eq_false (fun h => hl (by rw [h]))⟩
    have hl' : ¬ (xs.length : Int) = (ys.length : Int) := by omega
    clear hl
    go_enter Try.func13, Try.ntmps13
    go_wp2_with fail
    exact bodyPost_ret (by kernel_rfl) rfl ⟨by rw [HD.out], Grows.refl w⟩
end Go.Proofs.Ythdanjbgbbcafaa
