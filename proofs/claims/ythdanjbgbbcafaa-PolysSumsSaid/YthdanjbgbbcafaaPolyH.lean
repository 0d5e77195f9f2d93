/- polys: others. -/
import Derived.Test.YthdanjbgbbcafaaPolyG
namespace Go.Proofs.Ythdanjbgbbcafaa
open Go Go.RowKit

theorem info_num : (Try.prog.info? 24).map (fun i => (i.zero, i.size, i.bytes)) = some (some (.agg nought), 4, 32) := by kernel_rfl
theorem below_grown {B : Nat} {a w w' : World} {row : Option Nat} (h : Below B a w) (hg : w.grownBy w' row) (hr : ∀ g, row = some g → B ≤ g) (hB : B ≤ w.heap.size) : Below B a w' :=
  h.trans ⟨hg.os, hg.tape, hg.output, hg.size, fun k hk => hg.block k (by omega) (fun e => by have := hr k e.symm; omega)⟩
/-- A number less each but one of the first k. -/
def othM (q x : Nat) (ns : List Nat) (i k : Nat) : List Nat := ((ns.take k).eraseIdx i).map fun y => (x + q - y) % q
theorem othM_zero (q x : Nat) (ns : List Nat) (i : Nat) : othM q x ns i 0 = [] := by simp [othM]
theorem othM_same (q x : Nat) (ns : List Nat) (i : Nat) : othM q x ns i (i + 1) = othM q x ns i i := by
  unfold othM
  congr 1
  apply List.ext_getElem?
  intro j
  simp only [List.getElem?_eraseIdx, List.getElem?_take]
  by_cases hj : j < i
  · rw [if_pos hj, if_pos hj, if_pos (by omega), if_pos hj]
  · rw [if_neg hj, if_neg hj, if_neg (by omega), if_neg (by omega)]
theorem othM_step (q x : Nat) {ns : List Nat} {i k y : Nat} (hy : ns[k]? = some y) (hk : k ≠ i) : othM q x ns i (k + 1) = othM q x ns i k ++ [(x + q - y) % q] := by
  have hlt := (List.getElem?_eq_some_iff.1 hy).1
  have ht : ns.take (k + 1) = ns.take k ++ [y] := by
    rw [List.take_add_one, hy]
    rfl
  have hl : (ns.take k).length = k := by rw [List.length_take]; omega
  unfold othM
  rw [ht]
  by_cases h : i < k
  · rw [List.eraseIdx_append_of_lt_length (by omega), List.map_append]
    rfl
  · rw [List.eraseIdx_of_length_le (by rw [List.length_append, hl]; simp; omega), List.eraseIdx_of_length_le (by omega), List.map_append]
    rfl
theorem othM_all (q x : Nat) (ns : List Nat) (i : Nat) : othM q x ns i ns.length = (ns.eraseIdx i).map fun y => (x + q - y) % q := by rw [othM, List.take_length]
theorem othM_len (q x : Nat) (ns : List Nat) (i k : Nat) : (othM q x ns i k).length ≤ ns.length := by
  unfold othM
  rw [List.length_map]
  refine Nat.le_trans (List.length_eraseIdx_le _ _) ?_
  rw [List.length_take]
  omega
theorem othM_lt {q x : Nat} {ns : List Nat} {i k : Nat} (hq : 1 < q) : ∀ y ∈ othM q x ns i k, y < q := by
  unfold othM
  intro y hy
  rw [List.mem_map] at hy
  obtain ⟨z, _, rfl⟩ := hy
  exact Nat.mod_lt _ (by omega)
theorem num_cells_one (n : Nat) : ∀ v ∈ (num n).toList, v.oneCell' = true := fun v h => Array.all_eq_true_iff_forall_mem.1 (num_one n) v (by simpa using h)
/-- A row with one more. -/
theorem NumRow.more {w : World} {base : Nat} {t24 : TypeId} {v : Value} {ns ns' : List Nat} {d : Nat} (h : w.ownsRow base t24 4 v (ns.length + 1) (cellsOf ns ++ (num d).toList)) (hl : ∀ x ∈ ns, x < big) (hd : d < big) (hn : ns' = ns ++ [d]) : NumRow w base t24 v ns' := by
  subst hn
  refine ⟨by rw [List.length_append, cellsOf_append]; exact h, fun x hx => ?_⟩
  rcases List.mem_append.1 hx with hx | hx
  · exact hl x hx
  · simp only [List.mem_cons, List.not_mem_nil, or_false] at hx
    subst hx
    exact hd
def OthRel (w : World) (n : Nat) (x : Nat) (t24 : TypeId) (sts : Nat → List Nat) (vo vi : Value) (wr : World) : Prop :=
  ∃ k : Nat, k ≤ n ∧ vi = .int .i64 (k : Nat) ∧ Grows w wr ∧ Blk wr w.heap.size t24 (num x) ∧ NumRow wr (w.heap.size + 1) t24 vo (sts k)
set_option maxRecDepth 100000 in
set_option maxHeartbeats 4000000 in
theorem others_in (gr : Array Value) (q x i bf : Nat) (e : Int) (hgr : GroupRow gr q) (he : e = 0 ∨ e = 1 ∨ e = 7) (hq : 1 < q) (hx : x < q) (A : Option Addr) (cap : Nat) (ns : List Nat) (hall : ∀ y ∈ ns, y < q) (hlen : ns.length ≤ 1000) (hi : i < ns.length) (w : World) (hns : NumsAt w A ns) (BF : Blk w bf 57 (frow gr e)) :
    Calls Try.prog 40 #[.pointer (some ⟨bf, 0, none⟩), .slice A ns.length cap, .int .i64 (i : Nat), .agg (num x)] w (RowEnds w 24 ((ns.eraseIdx i).map fun y => (x + q - y) % q)) := by
  have hbf := BF.lt
  rw [← othM_all]
  have hst0 := othM_zero q x ns i
  have hsame := othM_same q x ns i
  have hstep := fun k y (hy : ns[k]? = some y) (hk : k ≠ i) => othM_step q x hy hk
  have hsl := othM_len q x ns i
  have hslt := fun k => othM_lt (x := x) (ns := ns) (i := i) (k := k) hq
  generalize othM q x ns i = sts at *
  obtain ⟨n, hn⟩ : ∃ n : Nat, n = ns.length := ⟨_, rfl⟩
  rw [← hn] at hlen hi hsl ⊢
  have HN := hide hn
  have HALL := hide hall
  have HSAME := hide hsame
  have HSTEP := hide hstep
  have HSL := hide hsl
  have HSLT := hide hslt
  have HNS := hide hns
  clear hn hall hsame hstep hsl hslt hns
  go_enter Try.func40, Try.ntmps40
  go_upto_region 1 with fail
  have a1 := Blk.new w 24 (num x)
  have hF0 := BF.alloc (.cells (num x) 24)
  have hL0 : Grows w (w.alloc (.cells (num x) 24)) := (Below.refl _ _).alloc (Nat.le_refl _) _
  change Code.wp _ _ _ _ (w.alloc (.cells (num x) 24))
  generalize w.alloc (.cells (num x) 24) = w1 at *
  have HST : Keep (OthRel w n x 24 sts (.slice none 0 0) (.int .i64 (0 : Nat)) w1) := ⟨⟨0, Nat.zero_le _, rfl, hL0, a1, by rw [hst0]; exact NumRow.nil _ _ _⟩⟩
  have HF := hide BF
  clear a1 hF0 hL0 hst0 BF
  go_wp2_with fail
  go_loopw [8, 12] (fun vo vi wr => OthRel w n x 24 sts vo vi wr) (fun _ i _ => n - (intOf i).toNat)
  case atStart => exact HST.out
  case round =>
    clear HST
    obtain ⟨k, hk, rfl, hL, hA, hR⟩ := hrel
    have KL := hide hL
    have KA := hide hA
    have KR := hide hR
    clear hL hA hR
    by_cases hkn : k < n
    · by_cases hki : k = i
      · subst hki
        go_wp2_with fail
        go_roundw
        case rel => exact ⟨k + 1, by omega, by go_num, KL.out, KA.out, by rw [HSAME.out]; exact KR.out⟩
        case measure => simp [intOf]; omega
      · have hki' : ¬ ((k : Int) = (i : Int)) := by omega
        obtain ⟨y, hy⟩ : ∃ y, ns[k]? = some y := ⟨_, List.getElem?_eq_getElem (by have := HN.out; omega)⟩
        have hyq := HALL.out y (List.mem_of_getElem? hy)
        obtain ⟨hyb, b, o, eA, hlt, hrng⟩ := (HNS.out.grow KL.out) k y hy
        subst eA
        have hst := HSTEP.out k y hy hki
        have hdq : (x + q - y) % q < q := Nat.mod_lt _ (by omega)
        have hd : Grows wr wr.drew := Below.drew (Below.refl _ wr)
        have HLESS : Keep (∀ w', Grows wr.drew w' → Calls Try.prog 50 #[.pointer (some ⟨bf, 0, none⟩), .agg (num x), .agg (num y)] w' (NumEnds w' ((x + q - y) % q))) := ⟨fun w' hg => lessF_in gr q x y bf e hgr he hq hx hyq w' (HF.out.below (Grows.trans KL.out (Grows.trans hd hg)) HF.out.lt)⟩
        obtain ⟨d, hdd⟩ : ∃ d : Nat, d = (x + q - y) % q := ⟨_, rfl⟩
        rw [← hdd] at hst hdq HLESS
        have HST := hide hst
        have lx := load_growsN KA.out.drew
        have ly : ∀ w', Grows wr.drew w' → _ := fun w' hg => load_grown hlt hrng w' (Grows.trans hd hg)
        clear hrng hy hlt hdd hst hki
        go_upto_region 5 with fail
        refine wp_region_kinds 9 (by kernel_rfl) (by kernel_rfl) (fun F hF => ?_)
        repeat (first
          | refine kinds_move_is _ rfl (Or.inl rfl) rfl ?_
          | refine kinds_move_is _ rfl (Or.inr rfl) rfl ?_
          | refine kinds_load 7 24 rfl rfl rfl lx ?_
          | refine kinds_load 23 24 rfl rfl rfl ly ?_
          | (apply kinds_like (OneNum 24 d) (OneNum.grow _ _) rfl
             · intro ρ wv K hw hf hK
               obtain ⟨e0, -⟩ := hf
               change ρ _ = _ at e0
               unfold gives
               simp only [execOp, List.map_toArray, List.map_cons, List.map_nil, e0, Sem.run_bind, buildSlice_num, Result.andThen_ok, Sem.run_pure, givesUpon]
               exact hK _ _ ((Below.refl _ _).alloc (Nat.le_refl _) _) ⟨_, rfl, Blk.new _ _ _⟩)
          | refine kinds_off rfl rfl rfl rfl ?_
          | refine kinds_off' rfl rfl rfl ?_
          | ((first | refine kinds_on rfl rfl rfl ?_ | skip)
             apply kinds_is rfl
             · intro ρ wv K hw hf hK
               first | obtain ⟨e0, e1, e2, e3, e4, e5, e6, -⟩ := hf | obtain ⟨e0, e1, e2, e3, e4, e5, -⟩ := hf | obtain ⟨e0, e1, e2, e3, e4, -⟩ := hf | obtain ⟨e0, e1, e2, e3, -⟩ := hf | obtain ⟨e0, e1, e2, -⟩ := hf | obtain ⟨e0, e1, -⟩ := hf | obtain ⟨e0, -⟩ := hf | clear hf
               (try change ρ _ = _ at e0)
               (try change ρ _ = _ at e1)
               (try change ρ _ = _ at e2)
               (try change ρ _ = _ at e3)
               unfold gives
               go_simp
               first
                 | (change Calls _ _ _ _ _; (go_at_call 50; (with_reducible refine (HLESS.out _ hw).mono ?_); rintro e w' ⟨rfl, hb⟩; exact ⟨_, rfl, hK _ hb⟩))
                 | ((try go_ints); (try rw [if_pos (by omega)]); exact hK _ (Grows.refl _))))
        refine kinds_nil (hF _ rfl rfl (fun ww hg => ?_))
        clear hF F
        simp only [pushSlot, finish, Act.put, List.setIfInBounds_toArray, List.set_cons_succ, List.set_cons_zero]
        simp only [List.drop_succ_cons, List.drop_zero]
        intro t26 ht
        obtain ⟨A2, rfl, hreads⟩ := ht.reads
        have HRD := hide hreads
        have KL2 := hide (Grows.trans KL.out (Grows.trans hd hg))
        have KA2 := hide (KA.out.drew.below hg KA.out.drew.lt)
        have KR2 := hide (KR.out.grow (Grows.trans hd hg))
        have hln := HSL.out k
        have hsz := KL2.out.size
        have hsz' := KA2.out.lt
        clear hg hd lx ly ht hreads KL KA KR HLESS
        obtain ⟨i0, hi0, hi1, hi2, hi3⟩ := info_parts info_num
        refine wpList_append_any _ rfl (.tmp 18) (.tmp 26) 27 rfl (w.heap.size + 1) 24 i0 (.agg nought) 4 32 Try.underlying27 hi0 hi1 hi2 hi3 rfl (by decide) _ (sts k).length (cellsOf (sts k)) rfl KR2.out.own ww.heap.size A2 1 1 (num d).toList rfl HRD.out (num_cells_one d) (by unfold maxLen; omega) (by omega) (by omega) ?_
        intro v' w' hown hgrow hat
        have hrow : ∀ g, Value.ownBlock _ = some g → w.heap.size + 1 ≤ g := fun g hg => (KR2.out.own.lt g hg).1
        have KR3 := hide (NumRow.more hown KR2.out.lt (Nat.lt_trans hdq hgr.lt) HST.out)
        have KL3 := hide (below_grown KL2.out hgrow (fun g hg => by have := hrow g hg; omega) hsz)
        have KA3 := hide (KA2.out.grown hgrow (fun e => by have := hrow _ e.symm; omega))
        clear hown hgrow hat hrow hi0 hi1 hi2 hi3 hsz hsz' hln KL2 KA2 KR2 HRD
        go_wp2_with fail
        go_roundw
        case rel => exact ⟨k + 1, by omega, by go_num, KL3.out, KA3.out, KR3.out⟩
        case measure => simp [intOf]; omega
    · have hkn' : k = n := by omega
      clear hkn
      subst hkn'
      go_wp2_with fail
      try rw [Exit.noGoto_ret]
      exact bodyPost_ret (by kernel_rfl) rfl ⟨_, rfl, KR.out.lower (by omega), KL.out⟩
end Go.Proofs.Ythdanjbgbbcafaa
