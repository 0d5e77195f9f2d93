/- balefirelaw10.alive: walked. -/
import Derived.Test.YthdanjbgbbcafaaTen
import Derived.Test.YthdanjbgbbcafaaTypF
namespace Go.Proofs.Ythdanjbgbbcafaa
open Go Go.RowKit

theorem of_two (b : Nat) (t : TypeId) (x y : Nat) (hx : x < 18446744073709551616) (hy : y < 18446744073709551616) (w : World) (B : Blk w b t (wordsOf [x, y])) :
    Calls Try.prog 23 #[.slice (some ⟨b, 0, none⟩) 2 2] w (RowEnds w 24 [x, y]) :=
  of_any b t [x, y] (by simp [hx, hy]) (by simp) w B
theorem of_three (b : Nat) (t : TypeId) (x y z : Nat) (hx : x < 18446744073709551616) (hy : y < 18446744073709551616) (hz : z < 18446744073709551616) (w : World) (B : Blk w b t (wordsOf [x, y, z])) :
    Calls Try.prog 23 #[.slice (some ⟨b, 0, none⟩) 3 3] w (RowEnds w 24 [x, y, z]) :=
  of_any b t [x, y, z] (by simp [hx, hy, hz]) (by simp) w B
/-- A group of which Q alone is told. -/
def grQ (q : Nat) : Array Value := #[uw 0, uw 0, uw 0, uw 0, uw q, uw 0, uw 0, uw 0, uw 0, uw 0, uw 0, uw 0, uw 0, uw 0, uw 0, uw 0]
theorem grQ_row (q : Nat) (hq : q < 18446744073709551616) : GroupRow (grQ q) q := by
  refine ⟨rfl, by simp [grQ, Value.oneCell'], fun j v hv => ?_, Nat.lt_trans hq (by rw [big_pow]; decide)⟩
  rw [num_word q hq] at hv
  have hj : j < 4 := (List.getElem?_eq_some_iff.1 hv).1
  rcases four hj with rfl | rfl | rfl | rfl <;> exact hv
theorem val_a : atN 11 [1, 2, 3] 2 = 6 ∧ atE 11 [1, 2, 3] 2 = 0 := by decide
theorem val_b : atN 11 [] 5 = 0 ∧ atE 11 [] 5 = 0 := by decide
theorem inv_1_11 : invN 1 11 = 1 := invN_is (by decide) (by decide)
theorem inv_2_11 : invN 2 11 = 6 := invN_is (by decide) (by decide)
theorem inv_10_11 : invN 10 11 = 10 := invN_is (by decide) (by decide)
theorem val_w : wgN 11 [1, 2] 0 = [2, 10] ∧ wgE 11 [1, 2] 0 = 0 := by
  refine ⟨?_, by decide⟩
  unfold wgN
  rw [if_pos (by decide), if_pos (by decide)]
  show [wtM 11 [1, 2] 0 0, wtM 11 [1, 2] 0 1] = _
  unfold wtM
  rw [show denM 11 [1, 2] 0 = 10 by decide, show denM 11 [1, 2] 1 = 1 by decide, inv_10_11, inv_1_11]
  decide
theorem val_i : wgE 11 [1, 1] 0 = 1 := by decide
theorem val_j : wgE 11 [] 0 = 1 := by decide
theorem val_t : thN 11 [1, 2, 3] [6, 6, 1] = [1, 2, 3] ∧ thE 11 [1, 2, 3] [6, 6, 1] = 0 := by
  refine ⟨?_, by decide⟩
  unfold thN
  rw [if_pos (by decide), if_pos (by decide)]
  show thM 11 [1, 2, 3] [6, 6, 1] 3 = _
  simp only [thM]
  unfold topM
  rw [show denM 11 [1, 2, 3] 0 = 2 by decide, show denM 11 [1, 2, 3] 1 = 10 by decide, show denM 11 [1, 2, 3] 2 = 2 by decide, inv_2_11, inv_10_11]
  decide
theorem val_l : thE 4 [0, 2] [1, 1] = 7 := by decide
def WdS (t : TypeId) (ws : List Nat) (v : Value) (w : World) : Prop := ∃ b, v = .slice (some ⟨b, 0, none⟩) ws.length ws.length ∧ Blk w b t (wordsOf ws)
theorem WdS.grow (t : TypeId) (ws : List Nat) (v : Value) (w w' : World) (h : WdS t ws v w) (hg : Grows w w') : WdS t ws v w' := by
  obtain ⟨b, h1, h2⟩ := h
  exact ⟨b, h1, h2.below hg h2.lt⟩
theorem WdS.fstep {fr : List Fresh} {base : World} (t : TypeId) (ws : List Nat) (hf : ∀ f ∈ fr, f.t ≠ t) (v : Value) (w w' : World) (h : WdS t ws v w) (hg : FStep fr base w w') : WdS t ws v w' := by
  obtain ⟨b, h1, h2⟩ := h
  exact ⟨b, h1, h2.fstep hg fun f hm => .inl (hf f hm)⟩
theorem NumRow.fstep {fr : List Fresh} {base : World} (B : Nat) (t24 : TypeId) (ns : List Nat) (hn : 2 ≤ ns.length) (hf : ∀ f ∈ fr, f.z.size = 4) (v : Value) (w w' : World) (h : NumRow w B t24 v ns) (hg : FStep fr base w w') : NumRow w' B t24 v ns := by
  refine ⟨⟨h.own.1, ?_⟩, h.lt⟩
  rcases h.own.2 with h1 | ⟨g, cap, cur, h1, h2, h3, h4, h5, h6, h7⟩
  · exact .inl h1
  · refine .inr ⟨g, cap, cur, h1, h2, ?_, h4, h5, h6, h7⟩
    rw [hg.other g cur t24 h3 (fun f hm => .inr (by rw [hf f hm, h6]; omega))]
    exact h3
def TupRow (B : Nat) (t24 : TypeId) (ns : List Nat) (c : Int) (v : Value) (w : World) : Prop := ∃ s, v = .tuple #[s, .int .i64 c] ∧ NumRow w B t24 s ns
theorem TupRow.grow (B : Nat) (t24 : TypeId) (ns : List Nat) (c : Int) (v : Value) (w w' : World) (h : TupRow B t24 ns c v w) (hg : Grows w w') : TupRow B t24 ns c v w' := by
  obtain ⟨s, h1, h2⟩ := h
  exact ⟨s, h1, h2.grow hg⟩
theorem built_grQ (q : Nat) : Try.prog.built 26 [(1, .agg #[uw q, uw 0, uw 0, uw 0])] = some (grQ q) := by kernel_rfl
set_option maxRecDepth 100000 in
set_option maxHeartbeats 8000000 in
theorem alive10_any (w : World) : Calls Try.prog 10 #[] w (BoolEnds w true) := by
  have HB11 := hide (built_grQ 11)
  have HB4 := hide (built_grQ 4)
  go_enter Try.func10, Try.ntmps10
  go_upto_region 2 with (first | (refine wpList_build_of rfl 26 _ (grQ 11) [(1, .agg #[uw 11, uw 0, uw 0, uw 0])] rfl (by kernel_rfl) HB11.out ?_) | (refine wpList_store_row rfl 26 (.tmp 1) (.tmp 17) rfl w.heap.size (grQ 11) rfl rfl 26 _ (Blk.new w _ _) (by kernel_rfl) rfl (grQ_row 11 (by decide)).one ?_) | fail)
  have hgr := grQ_row 11 (by decide)
  have hgr4 := grQ_row 4 (by decide)
  have HGR := hide hgr
  have n2 : (.agg (num 2) : Value) = .agg #[.int .u64 2, .int .u64 0, .int .u64 0, .int .u64 0] := by rw [num_word 2 (by decide)]; rfl
  have n5 : (.agg (num 5) : Value) = .agg #[.int .u64 5, .int .u64 0, .int .u64 0, .int .u64 0] := by rw [num_word 5 (by decide)]; rfl
  have n0 : (.agg (num 0) : Value) = .agg #[.int .u64 0, .int .u64 0, .int .u64 0, .int .u64 0] := by rw [num_zero]; rfl
  have n6 : (.agg (num 6) : Value) = .agg #[.int .u64 6, .int .u64 0, .int .u64 0, .int .u64 0] := by rw [num_word 6 (by decide)]; rfl
  have HAT : Keep (∀ (A : Option Addr) (c : Nat) (wv : World), NumsAt wv A [1, 2, 3] → Calls Try.prog 12 #[.agg (grQ 11), .slice A 3 c, .agg #[.int .u64 2, .int .u64 0, .int .u64 0, .int .u64 0]] wv (MayEnds wv 6 0)) := ⟨fun A c wv h => by
    have h := at_any (grQ 11) 11 2 hgr (by rw [big_pow]; decide) A c [1, 2, 3] (by simp) wv h
    rw [n2, val_a.1, val_a.2] at h
    exact h⟩
  have HAT0 : Keep (∀ (wv : World), Calls Try.prog 12 #[.agg (grQ 11), .slice none 0 0, .agg #[.int .u64 5, .int .u64 0, .int .u64 0, .int .u64 0]] wv (MayEnds wv 0 0)) := ⟨fun wv => by
    have h := at_any (grQ 11) 11 5 hgr (by rw [big_pow]; decide) none 0 [] (by simp) wv (fun i x hx => by simp at hx)
    rw [n5, val_b.1, val_b.2] at h
    exact h⟩
  have HW1 : Keep (∀ (A : Option Addr) (c : Nat) (wv : World), 2 ≤ c → NumsAt wv A [1, 2] → Calls Try.prog 17 #[.agg (grQ 11), .slice A 2 c, .agg #[.int .u64 0, .int .u64 0, .int .u64 0, .int .u64 0]] wv (RowErr wv 24 [2, 10] 0)) := ⟨fun A c wv hc h => by
    have h := weights_any (grQ 11) 11 0 hgr big_pos A c [1, 2] (by simp) (by simpa using hc) wv h
    rw [n0, val_w.1, val_w.2] at h
    exact h⟩
  have HW2 : Keep (∀ (A : Option Addr) (c : Nat) (wv : World), 2 ≤ c → NumsAt wv A [1, 1] → Calls Try.prog 17 #[.agg (grQ 11), .slice A 2 c, .agg #[.int .u64 0, .int .u64 0, .int .u64 0, .int .u64 0]] wv (RowErr wv 24 (wgN 11 [1, 1] 0) 1)) := ⟨fun A c wv hc h => by
    have h := weights_any (grQ 11) 11 0 hgr big_pos A c [1, 1] (by simp) (by simpa using hc) wv h
    rw [n0, val_i] at h
    exact h⟩
  have HW3 : Keep (∀ (wv : World), Calls Try.prog 17 #[.agg (grQ 11), .slice none 0 0, .agg #[.int .u64 0, .int .u64 0, .int .u64 0, .int .u64 0]] wv (RowErr wv 24 (wgN 11 [] 0) 1)) := ⟨fun wv => by
    have h := weights_any (grQ 11) 11 0 hgr big_pos none 0 [] (by simp) (by simp) wv (fun i x hx => by simp at hx)
    rw [n0, val_j] at h
    exact h⟩
  have HT1 : Keep (∀ (A : Option Addr) (c : Nat) (B : Option Addr) (d : Nat) (wv : World), 3 ≤ c → NumsAt wv A [1, 2, 3] → NumsAt wv B [6, 6, 1] → Calls Try.prog 11 #[.agg (grQ 11), .slice A 3 c, .slice B 3 d] wv (RowErr wv 24 [1, 2, 3] 0)) := ⟨fun A c B d wv hc h h' => by
    have h := through_any (grQ 11) 11 hgr A c [1, 2, 3] (by simp) (by simpa using hc) B d [6, 6, 1] (by simp) wv h h'
    rw [val_t.1, val_t.2] at h
    exact h⟩
  have HT2 : Keep (∀ (A : Option Addr) (c : Nat) (B : Option Addr) (d : Nat) (wv : World), 2 ≤ c → NumsAt wv A [0, 2] → NumsAt wv B [1, 1] → Calls Try.prog 11 #[.agg (grQ 4), .slice A 2 c, .slice B 2 d] wv (RowErr wv 24 (thN 4 [0, 2] [1, 1]) 7)) := ⟨fun A c B d wv hc h h' => by
    have h := through_any (grQ 4) 4 hgr4 A c [0, 2] (by simp) (by simpa using hc) B d [1, 1] (by simp) wv h h'
    rw [val_l] at h
    exact h⟩
  generalize wgN 11 [1, 1] 0 = l5 at *
  generalize wgN 11 [] 0 = l6 at *
  generalize thN 4 [0, 2] [1, 1] = l8 at *
  have heq6 := num_eql 6 6 (by rw [big_pow]; decide) (by rw [big_pow]; decide)
  have heq0 := num_eql 0 0 big_pos big_pos
  rw [decide_eq_true rfl] at heq6 heq0
  generalize grQ 11 = gr at *
  have hG1 : ∀ z : Array Value, Blk ((w.alloc (.cells z 26)).setRow w.heap.size gr) w.heap.size 26 gr := fun z => (Blk.new w _ _).setRow _
  have hL1 : ∀ z : Array Value, Grows w ((w.alloc (.cells z 26)).setRow w.heap.size gr) := fun z => below_setRow ((Below.refl _ _).alloc (Nat.le_refl _) _) (Nat.le_refl _) _
  change Code.wp _ _ _ _ ((w.alloc (.cells #[.int .u64 0, .int .u64 0, .int .u64 0, .int .u64 0, .int .u64 0, .int .u64 0, .int .u64 0, .int .u64 0, .int .u64 0, .int .u64 0, .int .u64 0, .int .u64 0, .int .u64 0, .int .u64 0, .int .u64 0, .int .u64 0] 26)).setRow w.heap.size gr)
  have hG1 := hG1 #[.int .u64 0, .int .u64 0, .int .u64 0, .int .u64 0, .int .u64 0, .int .u64 0, .int .u64 0, .int .u64 0, .int .u64 0, .int .u64 0, .int .u64 0, .int .u64 0, .int .u64 0, .int .u64 0, .int .u64 0, .int .u64 0]
  have hL1 := hL1 #[.int .u64 0, .int .u64 0, .int .u64 0, .int .u64 0, .int .u64 0, .int .u64 0, .int .u64 0, .int .u64 0, .int .u64 0, .int .u64 0, .int .u64 0, .int .u64 0, .int .u64 0, .int .u64 0, .int .u64 0, .int .u64 0]
  generalize (w.alloc (.cells #[.int .u64 0, .int .u64 0, .int .u64 0, .int .u64 0, .int .u64 0, .int .u64 0, .int .u64 0, .int .u64 0, .int .u64 0, .int .u64 0, .int .u64 0, .int .u64 0, .int .u64 0, .int .u64 0, .int .u64 0, .int .u64 0] 26)).setRow w.heap.size gr = w1 at *
  have KG := hide hG1
  have KL := hide hL1
  have HE6 := hide heq6
  have HE0 := hide heq0
  have N6 := hide n6
  have N0 := hide n0
  have hsz := hL1.size
  clear hG1 hL1 heq6 heq0 n2 n5 n0 n6 hgr hgr4
  have lg := load_grp_grows HGR.out KG.out.drew
  refine wp_region_kindsF [⟨8, 9, 24, nought, num 6⟩] (by kernel_rfl) (by kernel_rfl) (fun F hF => ?_)
  repeat (first
    | refine kindsF_move_is _ rfl rfl (Or.inl rfl) rfl ?_
    | refine kindsF_move_is _ rfl rfl (Or.inr rfl) rfl ?_
    | refine kindsF_load 1 26 rfl rfl rfl rfl lg ?_
    | (refine kindsF_like (WdS 22 [1, 2, 3]) (WdS.fstep _ _ (by simp)) rfl rfl ?_ ?_
       · intro ρ wv K hw hf hK
         obtain ⟨e0, e1, e2, -⟩ := hf
         change ρ _ = _ at e0
         change ρ _ = _ at e1
         change ρ _ = _ at e2
         unfold gives
         go_simp
         exact hK _ _ ((Below.refl _ _).alloc (Nat.le_refl _) _) ⟨_, rfl, Blk.new _ _ _⟩)
    | (refine kindsF_like (fun v w' => NumRow w' w.heap.size 24 v [1, 2, 3]) (NumRow.fstep _ _ _ (by simp) (by simp)) rfl rfl ?_ ?_
       · intro ρ wv K hw hf hK
         obtain ⟨e0, e1, -⟩ := hf
         change WdS 22 [1, 2, 3] _ _ at e1
         obtain ⟨b, hb1, hb2⟩ := e1
         have HB2 := hide hb2
         clear hb2
         unfold gives
         go_simp
         change Calls _ _ _ _ _
         go_at_call 23
         with_reducible refine (of_three b 22 1 2 3 (by decide) (by decide) (by decide) _ HB2.out).mono ?_
         rintro e w' ⟨v, rfl, hv, hb⟩
         exact ⟨_, rfl, hK _ _ hb (hv.lower (Nat.le_trans hsz hw.size))⟩)
    | refine kindsF_alloc 24 9 nought (num 6) rfl rfl (List.Mem.head _) alloc_num ?_
    | refine kindsF_store 2 24 24 8 nought (num 6) rfl rfl rfl rfl rfl (List.Mem.head _) (store_num 6) ?_
    | (refine kindsF_is (v := .tuple #[.agg (num 6), .int .i64 0]) rfl rfl ?_ ?_
       · intro ρ wv K hw hf hK
         obtain ⟨e0, e1, e2, e3, -⟩ := hf
         change ρ _ = _ at e1
         change NumRow _ _ _ _ _ at e2
         change ρ _ = _ at e3
         obtain ⟨A2, c2, hv2, -, hn2, -⟩ := e2.open_
         have HN2 := hide hn2
         clear hn2 e2
         unfold gives
         go_simp
         change Calls _ _ _ _ _
         go_at_call 12
         with_reducible refine (HAT.out A2 c2 _ HN2.out).mono ?_
         rintro e w' ⟨rfl, hb⟩
         exact ⟨_, rfl, hK _ hb⟩)
    | (apply kindsF_is rfl rfl
       · intro ρ wv K hw hf hK
         first | obtain ⟨e0, e1, e2, e3, e4, e5, e6, -⟩ := hf | obtain ⟨e0, e1, e2, e3, e4, e5, -⟩ := hf | obtain ⟨e0, e1, e2, e3, e4, -⟩ := hf | obtain ⟨e0, e1, e2, e3, -⟩ := hf | obtain ⟨e0, e1, e2, -⟩ := hf | obtain ⟨e0, e1, -⟩ := hf | obtain ⟨e0, -⟩ := hf | clear hf
         (try change ρ _ = _ at e0)
         (try change ρ _ = _ at e1)
         (try change ρ _ = _ at e2)
         (try change ρ _ = _ at e3)
         unfold gives
         go_simp
         (try go_ints)
         (try rw [if_pos (by omega)])
         exact hK _ (Grows.refl _)))
  refine kindsF_nil (hF _ rfl rfl (fun ww γ hg hfr hun => ?_))
  clear hF F
  simp only [pushSlot, finish, Act.put, List.setIfInBounds_toArray, List.set_cons_succ, List.set_cons_zero]
  obtain ⟨⟨l2, B2⟩, -⟩ := hfr
  change Blk ww (γ 8) _ (num 6) at B2
  intro x20 _ x21 _ x2 _ ht
  obtain ⟨t1, -⟩ := ht
  change x2 = .pointer (some ⟨γ 8, 0, none⟩) at t1
  subst t1
  have hLw := below_trans_grows KL.out.drew hg hsz
  have KG2 := hide (KG.out.drew.below hg KG.out.drew.lt)
  have KB2 := hide B2
  have KL2 := hide hLw
  generalize γ 8 = g2 at *
  clear hg hun l2 B2 lg KG KL hLw
  clear γ
  generalize ww = w2 at *
  go_wp2_with (first | (refine wpList_load_row rfl 26 _ rfl (w.heap.size) rfl 26 gr (0, 0) _ KG2.out Try.underlying26 rfl (by rw [HGR.out.size]; kernel_rfl) ?_) | fail)
  with_reducible refine (HAT0.out _).mono ?_
  rintro e w3 ⟨rfl, L⟩
  have KG3 := hide (KG2.out.below L KG2.out.lt)
  have KB3 := hide (KB2.out.below L KB2.out.lt)
  have KL3 := hide (Grows.trans KL2.out L)
  clear L KG2 KB2 KL2
  go_upto_region 4 with (first | (refine wpList_store_row rfl 24 (.tmp 4) (.tmp 30) rfl (w3.heap.size) (num 0) rfl rfl 24 _ (Blk.new w3 _ nought) info4 rfl (num_one _) ?_) | fail)
  obtain ⟨R0, L0⟩ := num_box w3 24 (num 0)
  change Code.wp _ _ _ _ ((w3.alloc (.cells nought 24)).setRow w3.heap.size (num 0))
  generalize (w3.alloc (.cells nought 24)).setRow w3.heap.size (num 0) = w4 at *
  have KG4 := hide (KG3.out.below L0 KG3.out.lt)
  have KB4 := hide (KB3.out.below L0 KB3.out.lt)
  have KC4 := hide R0
  have KL4 := hide (Grows.trans KL3.out L0)
  have hsz := KL4.out.size
  generalize w3.heap.size = g4 at *
  clear R0 L0 KG3 KB3 KL3
  have lg := load_grp_grows HGR.out KG4.out.drew
  refine wp_region_kinds 10 (by kernel_rfl) (by kernel_rfl) (fun F hF => ?_)
  repeat (first
    | refine kinds_move_is _ rfl (Or.inl rfl) rfl ?_
    | refine kinds_move_is _ rfl (Or.inr rfl) rfl ?_
    | refine kinds_load 1 26 rfl rfl rfl lg ?_
    | (refine kinds_like (WdS 22 [1, 2]) (WdS.grow _ _) rfl ?_ ?_
       · intro ρ wv K hw hf hK
         obtain ⟨e0, e1, -⟩ := hf
         change ρ _ = _ at e0
         change ρ _ = _ at e1
         unfold gives
         go_simp
         exact hK _ _ ((Below.refl _ _).alloc (Nat.le_refl _) _) ⟨_, rfl, Blk.new _ _ _⟩)
    | (refine kinds_like (fun v w' => NumRow w' w.heap.size 24 v [1, 2]) (NumRow.stable _ _ _) rfl ?_ ?_
       · intro ρ wv K hw hf hK
         obtain ⟨e0, e1, -⟩ := hf
         change WdS 22 [1, 2] _ _ at e1
         obtain ⟨b, hb1, hb2⟩ := e1
         have HB2 := hide hb2
         clear hb2
         unfold gives
         go_simp
         change Calls _ _ _ _ _
         go_at_call 23
         with_reducible refine (of_two b 22 1 2 (by decide) (by decide) _ HB2.out).mono ?_
         rintro e w' ⟨v, rfl, hv, hb⟩
         exact ⟨_, rfl, hK _ _ hb (hv.lower (Nat.le_trans hsz hw.size))⟩)
    | (apply kinds_like (TupRow w.heap.size 24 ([2, 10]) 0) (TupRow.grow _ _ _ _) rfl
       · intro ρ wv K hw hf hK
         obtain ⟨e0, e1, e2, e3, -⟩ := hf
         change ρ _ = _ at e1
         change NumRow _ _ _ _ _ at e2
         change ρ _ = _ at e3
         obtain ⟨A2, c2, hv2, hc2, hn2, -⟩ := e2.open_
         have HN2 := hide hn2
         have HC2 : Keep (2 ≤ c2) := ⟨hc2⟩
         clear hn2 hc2 e2
         unfold gives
         go_simp
         change Calls _ _ _ _ _
         go_at_call 17
         with_reducible refine (HW1.out A2 c2 _ HC2.out HN2.out).mono ?_
         rintro e w' ⟨v, rfl, hv, hb⟩
         exact ⟨_, rfl, hK _ _ hb ⟨_, rfl, hv.lower (Nat.le_trans hsz hw.size)⟩⟩)
    | refine kinds_move 37 (.like (TupRow w.heap.size 24 ([2, 10]) 0)) rfl (Or.inl rfl) rfl (TupRow.grow _ _ _ _) ?_
    | (apply kinds_like (fun v w' => NumRow w' w.heap.size 24 v ([2, 10])) (NumRow.stable _ _ _) rfl
       · intro ρ wv K hw hf hK
         obtain ⟨e0, -⟩ := hf
         change TupRow _ _ _ _ _ _ at e0
         obtain ⟨s, hs1, hs2⟩ := e0
         have HS2 := hide hs2
         clear hs2
         unfold gives
         go_simp
         exact hK _ _ (Grows.refl _) HS2.out)
    | (apply kinds_is (v := .int .i64 (0)) rfl
       · intro ρ wv K hw hf hK
         obtain ⟨e0, -⟩ := hf
         change TupRow _ _ _ _ _ _ at e0
         obtain ⟨s, hs1, hs2⟩ := e0
         clear hs2
         unfold gives
         go_simp
         exact hK _ (Grows.refl _))
    | refine kinds_move 38 (.like (fun v w' => NumRow w' w.heap.size 24 v ([2, 10]))) rfl (Or.inr rfl) rfl (NumRow.stable _ _ _) ?_
    | refine kinds_off rfl rfl rfl rfl ?_
    | refine kinds_off' rfl rfl rfl ?_
    | ((first | refine kinds_on rfl rfl rfl ?_ | skip)
       apply kinds_is rfl
       · intro ρ wv K hw hf hK
         first | obtain ⟨e0, e1, e2, e3, e4, e5, e6, -⟩ := hf | obtain ⟨e0, e1, e2, e3, e4, e5, -⟩ := hf | obtain ⟨e0, e1, e2, e3, e4, -⟩ := hf | obtain ⟨e0, e1, e2, e3, -⟩ := hf | obtain ⟨e0, e1, e2, -⟩ := hf | obtain ⟨e0, e1, -⟩ := hf | obtain ⟨e0, -⟩ := hf | clear hf
         (try change ρ _ = _ at e0)
         (try change ρ _ = _ at e1)
         (try change ρ _ = _ at e2)
         (try change ρ _ = _ at e3)
         unfold gives
         go_simp
         (try go_ints)
         (try rw [if_pos (by omega)])
         exact hK _ (Grows.refl _)))
  refine kinds_nil (hF _ rfl rfl (fun ww hg => ?_))
  clear hF F
  simp only [pushSlot, finish, Act.put, List.setIfInBounds_toArray, List.set_cons_succ, List.set_cons_zero]
  simp only [List.drop_succ_cons, List.drop_zero]
  intro x34 _ x35 _ x37 _ x32 _ x38 _ v6 H6
  have KG5 := hide (KG4.out.drew.below hg KG4.out.drew.lt)
  have KB5 := hide (KB4.out.drew.below hg KB4.out.drew.lt)
  have KC5 := hide (KC4.out.drew.below hg KC4.out.drew.lt)
  have KL5 := hide (below_trans_grows KL4.out.drew hg hsz)
  have K6 := hide H6
  have hsz := KL5.out.size
  clear hg lg KG4 KB4 KC4 KL4 H6 HW1
  generalize ww = w5 at *
  go_upto_region 5 with fail
  have lg := load_grp_grows HGR.out KG5.out.drew
  refine wp_region_kinds 10 (by kernel_rfl) (by kernel_rfl) (fun F hF => ?_)
  repeat (first
    | refine kinds_move_is _ rfl (Or.inl rfl) rfl ?_
    | refine kinds_move_is _ rfl (Or.inr rfl) rfl ?_
    | refine kinds_load 1 26 rfl rfl rfl lg ?_
    | (refine kinds_like (WdS 22 [1, 1]) (WdS.grow _ _) rfl ?_ ?_
       · intro ρ wv K hw hf hK
         obtain ⟨e0, e1, -⟩ := hf
         change ρ _ = _ at e0
         change ρ _ = _ at e1
         unfold gives
         go_simp
         exact hK _ _ ((Below.refl _ _).alloc (Nat.le_refl _) _) ⟨_, rfl, Blk.new _ _ _⟩)
    | (refine kinds_like (fun v w' => NumRow w' w.heap.size 24 v [1, 1]) (NumRow.stable _ _ _) rfl ?_ ?_
       · intro ρ wv K hw hf hK
         obtain ⟨e0, e1, -⟩ := hf
         change WdS 22 [1, 1] _ _ at e1
         obtain ⟨b, hb1, hb2⟩ := e1
         have HB2 := hide hb2
         clear hb2
         unfold gives
         go_simp
         change Calls _ _ _ _ _
         go_at_call 23
         with_reducible refine (of_two b 22 1 1 (by decide) (by decide) _ HB2.out).mono ?_
         rintro e w' ⟨v, rfl, hv, hb⟩
         exact ⟨_, rfl, hK _ _ hb (hv.lower (Nat.le_trans hsz hw.size))⟩)
    | (apply kinds_like (TupRow w.heap.size 24 (l5) 1) (TupRow.grow _ _ _ _) rfl
       · intro ρ wv K hw hf hK
         obtain ⟨e0, e1, e2, e3, -⟩ := hf
         change ρ _ = _ at e1
         change NumRow _ _ _ _ _ at e2
         change ρ _ = _ at e3
         obtain ⟨A2, c2, hv2, hc2, hn2, -⟩ := e2.open_
         have HN2 := hide hn2
         have HC2 : Keep (2 ≤ c2) := ⟨hc2⟩
         clear hn2 hc2 e2
         unfold gives
         go_simp
         change Calls _ _ _ _ _
         go_at_call 17
         with_reducible refine (HW2.out A2 c2 _ HC2.out HN2.out).mono ?_
         rintro e w' ⟨v, rfl, hv, hb⟩
         exact ⟨_, rfl, hK _ _ hb ⟨_, rfl, hv.lower (Nat.le_trans hsz hw.size)⟩⟩)
    | refine kinds_move 45 (.like (TupRow w.heap.size 24 (l5) 1)) rfl (Or.inl rfl) rfl (TupRow.grow _ _ _ _) ?_
    | (apply kinds_like (fun v w' => NumRow w' w.heap.size 24 v (l5)) (NumRow.stable _ _ _) rfl
       · intro ρ wv K hw hf hK
         obtain ⟨e0, -⟩ := hf
         change TupRow _ _ _ _ _ _ at e0
         obtain ⟨s, hs1, hs2⟩ := e0
         have HS2 := hide hs2
         clear hs2
         unfold gives
         go_simp
         exact hK _ _ (Grows.refl _) HS2.out)
    | (apply kinds_is (v := .int .i64 (1)) rfl
       · intro ρ wv K hw hf hK
         obtain ⟨e0, -⟩ := hf
         change TupRow _ _ _ _ _ _ at e0
         obtain ⟨s, hs1, hs2⟩ := e0
         clear hs2
         unfold gives
         go_simp
         exact hK _ (Grows.refl _))
    | refine kinds_move 46 (.like (fun v w' => NumRow w' w.heap.size 24 v (l5))) rfl (Or.inr rfl) rfl (NumRow.stable _ _ _) ?_
    | refine kinds_off rfl rfl rfl rfl ?_
    | refine kinds_off' rfl rfl rfl ?_
    | ((first | refine kinds_on rfl rfl rfl ?_ | skip)
       apply kinds_is rfl
       · intro ρ wv K hw hf hK
         first | obtain ⟨e0, e1, e2, e3, e4, e5, e6, -⟩ := hf | obtain ⟨e0, e1, e2, e3, e4, e5, -⟩ := hf | obtain ⟨e0, e1, e2, e3, e4, -⟩ := hf | obtain ⟨e0, e1, e2, e3, -⟩ := hf | obtain ⟨e0, e1, e2, -⟩ := hf | obtain ⟨e0, e1, -⟩ := hf | obtain ⟨e0, -⟩ := hf | clear hf
         (try change ρ _ = _ at e0)
         (try change ρ _ = _ at e1)
         (try change ρ _ = _ at e2)
         (try change ρ _ = _ at e3)
         unfold gives
         go_simp
         (try go_ints)
         (try rw [if_pos (by omega)])
         exact hK _ (Grows.refl _)))
  refine kinds_nil (hF _ rfl rfl (fun ww hg => ?_))
  clear hF F
  simp only [pushSlot, finish, Act.put, List.setIfInBounds_toArray, List.set_cons_succ, List.set_cons_zero]
  simp only [List.drop_succ_cons, List.drop_zero]
  intro x42 _ x43 _ x45 _ x40 _ x46 _ v8 _
  have hgg : Grows w5 ww := Grows.trans (Below.drew (Below.refl _ w5)) hg
  have KG6 := hide (KG5.out.below hgg KG5.out.lt)
  have KB6 := hide (KB5.out.below hgg KB5.out.lt)
  have KC6 := hide (KC5.out.below hgg KC5.out.lt)
  have KL6 := hide (below_trans_grows KL5.out hgg hsz)
  have K6' := hide (K6.out.grow hgg)
  clear hg hgg lg KG5 KB5 KC5 KL5 K6 HW2 hsz
  generalize ww = w6 at *
  go_wp2_with (first | (refine wpList_load_row rfl 26 _ rfl (w.heap.size) rfl 26 gr (0, 0) _ KG6.out Try.underlying26 rfl (by rw [HGR.out.size]; kernel_rfl) ?_) | fail)
  with_reducible refine (HW3.out _).mono ?_
  rintro e w7 ⟨v10, rfl, -, L⟩
  have KG7 := hide (KG6.out.below L KG6.out.lt)
  have KB7 := hide (KB6.out.below L KB6.out.lt)
  have KC7 := hide (KC6.out.below L KC6.out.lt)
  have KL7 := hide (Grows.trans KL6.out L)
  have K67 := hide (K6'.out.grow L)
  have hsz := KL7.out.size
  clear L KG6 KB6 KC6 KL6 K6' HW3
  go_upto_region 7 with fail
  have lg := load_grp_grows HGR.out KG7.out.drew
  refine wp_region_kinds 11 (by kernel_rfl) (by kernel_rfl) (fun F hF => ?_)
  repeat (first
    | refine kinds_move_is _ rfl (Or.inl rfl) rfl ?_
    | refine kinds_move_is _ rfl (Or.inr rfl) rfl ?_
    | refine kinds_load 1 26 rfl rfl rfl lg ?_
    | (refine kinds_like (WdS 22 [1, 2, 3]) (WdS.grow _ _) rfl ?_ ?_
       · intro ρ wv K hw hf hK
         obtain ⟨e0, e1, e2, -⟩ := hf
         change ρ _ = _ at e0
         change ρ _ = _ at e1
         change ρ _ = _ at e2
         unfold gives
         go_simp
         exact hK _ _ ((Below.refl _ _).alloc (Nat.le_refl _) _) ⟨_, rfl, Blk.new _ _ _⟩)
    | (refine kinds_like (WdS 22 [6, 6, 1]) (WdS.grow _ _) rfl ?_ ?_
       · intro ρ wv K hw hf hK
         obtain ⟨e0, e1, e2, -⟩ := hf
         change ρ _ = _ at e0
         change ρ _ = _ at e1
         change ρ _ = _ at e2
         unfold gives
         go_simp
         exact hK _ _ ((Below.refl _ _).alloc (Nat.le_refl _) _) ⟨_, rfl, Blk.new _ _ _⟩)
    | (refine kinds_like (fun v w' => NumRow w' w.heap.size 24 v [1, 2, 3]) (NumRow.stable _ _ _) rfl ?_ ?_
       · intro ρ wv K hw hf hK
         obtain ⟨e0, e1, -⟩ := hf
         change WdS 22 [1, 2, 3] _ _ at e1
         obtain ⟨b, hb1, hb2⟩ := e1
         have HB2 := hide hb2
         clear hb2
         unfold gives
         go_simp
         change Calls _ _ _ _ _
         go_at_call 23
         with_reducible refine (of_three b 22 1 2 3 (by decide) (by decide) (by decide) _ HB2.out).mono ?_
         rintro e w' ⟨v, rfl, hv, hb⟩
         exact ⟨_, rfl, hK _ _ hb (hv.lower (Nat.le_trans hsz hw.size))⟩)
    | (refine kinds_like (fun v w' => NumRow w' w.heap.size 24 v [6, 6, 1]) (NumRow.stable _ _ _) rfl ?_ ?_
       · intro ρ wv K hw hf hK
         obtain ⟨e0, e1, -⟩ := hf
         change WdS 22 [6, 6, 1] _ _ at e1
         obtain ⟨b, hb1, hb2⟩ := e1
         have HB2 := hide hb2
         clear hb2
         unfold gives
         go_simp
         change Calls _ _ _ _ _
         go_at_call 23
         with_reducible refine (of_three b 22 6 6 1 (by decide) (by decide) (by decide) _ HB2.out).mono ?_
         rintro e w' ⟨v, rfl, hv, hb⟩
         exact ⟨_, rfl, hK _ _ hb (hv.lower (Nat.le_trans hsz hw.size))⟩)
    | (apply kinds_like (TupRow w.heap.size 24 ([1, 2, 3]) 0) (TupRow.grow _ _ _ _) rfl
       · intro ρ wv K hw hf hK
         obtain ⟨e0, e1, e2, e3, -⟩ := hf
         change ρ _ = _ at e1
         change NumRow _ _ _ _ _ at e2
         change NumRow _ _ _ _ _ at e3
         obtain ⟨A2, c2, hv2, hc2, hn2, -⟩ := e2.open_
         have HN2 := hide hn2
         have HC2 : Keep (3 ≤ c2) := ⟨hc2⟩
         clear hn2 hc2 e2
         obtain ⟨A3, c3, hv3, hc3, hn3, -⟩ := e3.open_
         have HN3 := hide hn3
         have HC3 : Keep (3 ≤ c3) := ⟨hc3⟩
         clear hn3 hc3 e3
         unfold gives
         go_simp
         change Calls _ _ _ _ _
         go_at_call 11
         with_reducible refine (HT1.out A2 c2 A3 c3 _ HC2.out HN2.out HN3.out).mono ?_
         rintro e w' ⟨v, rfl, hv, hb⟩
         exact ⟨_, rfl, hK _ _ hb ⟨_, rfl, hv.lower (Nat.le_trans hsz hw.size)⟩⟩)
    | refine kinds_move 60 (.like (TupRow w.heap.size 24 ([1, 2, 3]) 0)) rfl (Or.inl rfl) rfl (TupRow.grow _ _ _ _) ?_
    | (apply kinds_like (fun v w' => NumRow w' w.heap.size 24 v ([1, 2, 3])) (NumRow.stable _ _ _) rfl
       · intro ρ wv K hw hf hK
         obtain ⟨e0, -⟩ := hf
         change TupRow _ _ _ _ _ _ at e0
         obtain ⟨s, hs1, hs2⟩ := e0
         have HS2 := hide hs2
         clear hs2
         unfold gives
         go_simp
         exact hK _ _ (Grows.refl _) HS2.out)
    | (apply kinds_is (v := .int .i64 (0)) rfl
       · intro ρ wv K hw hf hK
         obtain ⟨e0, -⟩ := hf
         change TupRow _ _ _ _ _ _ at e0
         obtain ⟨s, hs1, hs2⟩ := e0
         clear hs2
         unfold gives
         go_simp
         exact hK _ (Grows.refl _))
    | refine kinds_move 61 (.like (fun v w' => NumRow w' w.heap.size 24 v ([1, 2, 3]))) rfl (Or.inr rfl) rfl (NumRow.stable _ _ _) ?_
    | refine kinds_off rfl rfl rfl rfl ?_
    | refine kinds_off' rfl rfl rfl ?_
    | ((first | refine kinds_on rfl rfl rfl ?_ | skip)
       apply kinds_is rfl
       · intro ρ wv K hw hf hK
         first | obtain ⟨e0, e1, e2, e3, e4, e5, e6, -⟩ := hf | obtain ⟨e0, e1, e2, e3, e4, e5, -⟩ := hf | obtain ⟨e0, e1, e2, e3, e4, -⟩ := hf | obtain ⟨e0, e1, e2, e3, -⟩ := hf | obtain ⟨e0, e1, e2, -⟩ := hf | obtain ⟨e0, e1, -⟩ := hf | obtain ⟨e0, -⟩ := hf | clear hf
         (try change ρ _ = _ at e0)
         (try change ρ _ = _ at e1)
         (try change ρ _ = _ at e2)
         (try change ρ _ = _ at e3)
         unfold gives
         go_simp
         (try go_ints)
         (try rw [if_pos (by omega)])
         exact hK _ (Grows.refl _)))
  refine kinds_nil (hF _ rfl rfl (fun ww hg => ?_))
  clear hF F
  simp only [pushSlot, finish, Act.put, List.setIfInBounds_toArray, List.set_cons_succ, List.set_cons_zero]
  simp only [List.drop_succ_cons, List.drop_zero]
  intro x56 _ x57 _ x58 _ x59 _ x60 _ x54 _ x61 _ v12 H12
  have hgg : Grows w7 ww := Grows.trans (Below.drew (Below.refl _ w7)) hg
  have KB8 := hide (KB7.out.below hgg KB7.out.lt)
  have KC8 := hide (KC7.out.below hgg KC7.out.lt)
  have KL8 := hide (below_trans_grows KL7.out hgg hsz)
  have K68 := hide (K67.out.grow hgg)
  have K12 := hide H12
  clear hg hgg lg KG7 KB7 KC7 KL7 K67 H12 HT1 hsz
  generalize ww = w8 at *
  go_wp2_with (first | (refine wpList_build_of rfl 26 _ (grQ 4) [(1, .agg #[uw 4, uw 0, uw 0, uw 0])] rfl (by kernel_rfl) HB4.out ?_) | fail)
  change Calls _ _ _ (w8.alloc (.cells (wordsOf [0, 2]) 22)) _
  have L0 : Grows w8 (w8.alloc (.cells (wordsOf [0, 2]) 22)) := (Below.refl _ _).alloc (Nat.le_refl _) _
  have HX0 := hide (Blk.new w8 22 (wordsOf [0, 2]))
  generalize w8.alloc (.cells (wordsOf [0, 2]) 22) = w9 at *
  with_reducible refine (of_two w8.heap.size 22 0 2 (by decide) (by decide) _ HX0.out).mono ?_
  rintro e w10 ⟨v67, rfl, hv, L⟩
  obtain ⟨A67, c67, rfl, hc, hn, -⟩ := hv.open_
  have HC67 : Keep (2 ≤ c67) := ⟨hc⟩
  have HN67 := hide hn
  have KL10 := hide (Grows.trans L0 L)
  clear hv hc hn L0 L HX0
  go_wp2_with fail
  change Calls _ _ _ (w10.alloc (.cells (wordsOf [1, 1]) 22)) _
  have L0 : Grows w10 (w10.alloc (.cells (wordsOf [1, 1]) 22)) := (Below.refl _ _).alloc (Nat.le_refl _) _
  have HX0 := hide (Blk.new w10 22 (wordsOf [1, 1]))
  generalize w10.alloc (.cells (wordsOf [1, 1]) 22) = w11 at *
  with_reducible refine (of_two w10.heap.size 22 1 1 (by decide) (by decide) _ HX0.out).mono ?_
  rintro e w12 ⟨v69, rfl, hv, L⟩
  obtain ⟨A69, c69, rfl, hc, hn, -⟩ := hv.open_
  have HN69 := hide hn
  have HN67' := hide (HN67.out.grow (Grows.trans L0 L))
  have KL12 := hide (Grows.trans KL10.out (Grows.trans L0 L))
  clear hv hc hn L0 L HX0 KL10 HN67
  go_wp2_with fail
  with_reducible refine (HT2.out A67 c67 A69 c69 _ HC67.out HN67'.out HN69.out).mono ?_
  rintro e w13 ⟨v14, rfl, -, L⟩
  have hgg : Grows w8 w13 := Grows.trans KL12.out L
  have KB9 := hide (KB8.out.below hgg KB8.out.lt)
  have KC9 := hide (KC8.out.below hgg KC8.out.lt)
  have KL9 := hide (below_trans_grows KL8.out hgg KL8.out.size)
  obtain ⟨A6, c6, hv6, -, hn6, -⟩ := (K68.out.grow hgg).open_
  obtain ⟨A12, c12, hv12, -, hn12, -⟩ := (K12.out.grow hgg).open_
  change v6 = .slice A6 2 c6 at hv6
  change v12 = .slice A12 3 c12 at hv12
  subst hv6 hv12
  have HN6 := hide hn6
  have HN12 := hide hn12
  clear L hgg KB8 KC8 KL8 K68 K12 HN67' HN69 KL12 HT2 hn6 hn12
  have heq6 : ∀ W, (binOp .eql 24 (.agg (num 6)) (.agg #[.int .u64 6, .int .u64 0, .int .u64 0, .int .u64 0])).run Try.prog W = .ok (.bool true) W := fun W => by rw [← N6.out]; exact HE6.out W
  have heq0 : ∀ W, (binOp .eql 24 (.agg (num 0)) (.agg #[.int .u64 0, .int .u64 0, .int .u64 0, .int .u64 0])).run Try.prog W = .ok (.bool true) W := fun W => by rw [← N0.out]; exact HE0.out W
  go_wp2_with (first | (refine wpList_load_row_on rfl 24 _ rfl g2 rfl 24 (num 6) (0, 0) _ KB9.out Try.underlying24 rfl info4 ?_) | (refine wpList_load_row_on rfl 24 _ rfl g4 rfl 24 (num 0) (0, 0) _ KC9.out Try.underlying24 rfl info4 ?_) | fail)
  change Calls _ _ _ (w13.alloc (.cells (wordsOf [2, 10]) 22)) _
  have L0 : Grows w13 (w13.alloc (.cells (wordsOf [2, 10]) 22)) := (Below.refl _ _).alloc (Nat.le_refl _) _
  have HX0 := hide (Blk.new w13 22 (wordsOf [2, 10]))
  generalize w13.alloc (.cells (wordsOf [2, 10]) 22) = w14 at *
  with_reducible refine (of_two w13.heap.size 22 2 10 (by decide) (by decide) _ HX0.out).mono ?_
  rintro e w15 ⟨v96, rfl, hv, L⟩
  obtain ⟨A96, c96, rfl, hc, hn, -⟩ := hv.open_
  have hs := sameNums_any A6 A96 c6 c96 [2, 10] [2, 10] (by simp) w15 (HN6.out.grow (Grows.trans L0 L)) hn
  rw [decide_eq_true rfl] at hs
  have HS : Keep (Calls Try.prog 13 #[.slice A6 2 c6, .slice A96 2 c96] w15 (BoolEnds w15 true)) := ⟨hs⟩
  have HN12' := hide (HN12.out.grow (Grows.trans L0 L))
  have KL15 := hide (Grows.trans KL9.out (Grows.trans L0 L))
  clear hv hc hn L0 L HX0 hs HN6 HN12 KL9 KB9 KC9 heq6 heq0
  go_wp2_with fail
  with_reducible refine HS.out.mono ?_
  rintro e w16 ⟨rfl, L⟩
  have HN12'' := hide (HN12'.out.grow L)
  have KL16 := hide (Grows.trans KL15.out L)
  clear L HS HN12' KL15
  go_wp2_with fail
  change Calls _ _ _ (w16.alloc (.cells (wordsOf [1, 2, 3]) 22)) _
  have L0 : Grows w16 (w16.alloc (.cells (wordsOf [1, 2, 3]) 22)) := (Below.refl _ _).alloc (Nat.le_refl _) _
  have HX0 := hide (Blk.new w16 22 (wordsOf [1, 2, 3]))
  generalize w16.alloc (.cells (wordsOf [1, 2, 3]) 22) = w17 at *
  with_reducible refine (of_three w16.heap.size 22 1 2 3 (by decide) (by decide) (by decide) _ HX0.out).mono ?_
  rintro e w18 ⟨v114, rfl, hv, L⟩
  obtain ⟨A114, c114, rfl, hc, hn, -⟩ := hv.open_
  have hs := sameNums_any A12 A114 c12 c114 [1, 2, 3] [1, 2, 3] (by simp) w18 (HN12''.out.grow (Grows.trans L0 L)) hn
  rw [decide_eq_true rfl] at hs
  have HS : Keep (Calls Try.prog 13 #[.slice A12 3 c12, .slice A114 3 c114] w18 (BoolEnds w18 true)) := ⟨hs⟩
  have KL18 := hide (Grows.trans KL16.out (Grows.trans L0 L))
  clear hv hc hn L0 L HX0 hs HN12'' KL16
  go_wp2_with fail
  with_reducible refine HS.out.mono ?_
  rintro e w19 ⟨rfl, L⟩
  have KL19 := hide (Grows.trans KL18.out L)
  clear L HS KL18
  go_wp2_with fail
  exact bodyPost_ret (by kernel_rfl) rfl ⟨rfl, KL19.out⟩
end Go.Proofs.Ythdanjbgbbcafaa
