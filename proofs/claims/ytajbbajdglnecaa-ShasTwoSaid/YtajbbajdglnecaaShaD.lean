/- SHA-256's blocks: the program's walk. -/
import Derived.Test.YtajbbajdglnecaaShaC
namespace Go.Proofs.Ytajbbajdglnecaa
open Go Go.RowKit

/-- A slice of these small numbers, in a block of its own. -/
def Ks (l : List Nat) (v : Value) (w : World) : Prop := ∃ g, v = .slice (some ⟨g, 0, none⟩) l.length l.length ∧ Blk w g 3 (l.map (fun k : Nat => Value.int .i64 k)).toArray
theorem Ks.stable (l : List Nat) : ∀ v w w', Ks l v w → Grows w w' → Ks l v w' := fun _ _ _ ⟨g, e, hB⟩ hg => ⟨g, e, hB.below hg hB.lt⟩
def MixEnds (x : B32) (l : List Nat) (w : World) (e : Ending) (w' : World) : Prop := e = .returned (.int .u32 (un (mixS x l))) ∧ w = w'
theorem mix_ks (x : B32) (l : List Nat) (v : Value) (w : World) (h : Ks l v w) (h31 : l.length ≤ 31) (hl : ∀ k ∈ l, 1 ≤ k ∧ k ≤ 31) :
    Calls Try.prog 35 #[.int .u32 (un x), v] w (MixEnds x l w) := by
  obtain ⟨g, rfl, hB⟩ := h
  refine (mix_any x ⟨g, 0, none⟩ l.length l w rfl h31 hl (fun i hi => ?_)).mono fun e w' h => h
  have e : (⟨g, 0, none⟩ : Addr).add i = ⟨g, i, none⟩ := by unfold Addr.add; split <;> simp_all
  rw [e, hB.cell i]
  simp only [List.getElem?_toArray, List.getElem?_map, List.getElem?_eq_getElem hi, Option.map_some, List.getD_eq_getElem?_getD, Option.getD_some]
theorem s0_mix (x : B32) : mixS x [7, 18] ^^^ x >>> 3 = s0 x := by rw [mixS_two]; rfl
theorem s1_mix (x : B32) : mixS x [17, 19] ^^^ x >>> 10 = s1 x := by rw [mixS_two]; rfl
theorem rules_mix : (∀ x : B32, mixS x [7, 18] ^^^ x >>> 3 = s0 x) ∧ (∀ x : B32, mixS x [17, 19] ^^^ x >>> 10 = s1 x) := ⟨s0_mix, s1_mix⟩

/-- The block's bytes as cells. -/
def bRow (l : Nat → Int) : Array Value := ((List.range 64).map fun j => Value.int .u8 (l j)).toArray
theorem bRow_at (l : Nat → Int) (j : Nat) (h : j < 64) : (bRow l)[j]? = some (.int .u8 (l j)) := by
  unfold bRow
  simp only [List.getElem?_toArray, List.getElem?_map, List.getElem?_range h, Option.map_some]

def WordRel (W : World) (s : S8) (l : Nat → Int) (t tb tw : TypeId) (v : Value) (wr : World) : Prop :=
  ∃ k : Nat, k ≤ 64 ∧ v = .int .i64 k ∧ Below W.heap.size W wr ∧ Blk wr W.heap.size t s.row ∧ Blk wr (W.heap.size + 1) tb (bRow l) ∧ Blk wr (W.heap.size + 1 + 1) t (zeroRow 8) ∧ Blk wr (W.heap.size + 1 + 1 + 1) tw (wRow l k)

def RoundRel2 (W : World) (s : S8) (l : Nat → Int) (q : Nat) (t : TypeId) (tw : TypeId) (v : Value) (wr : World) : Prop :=
  ∃ k : Nat, k ≤ 64 ∧ v = .int .i64 k ∧ Below W.heap.size W wr ∧ Blk wr W.heap.size t s.row ∧ Blk wr (W.heap.size + 1 + 1) t (zeroRow 8) ∧ Blk wr (W.heap.size + 1 + 1 + 1) tw (wRow l 64) ∧ Blk wr q t (rnds s l k).row

def AddRel2 (W : World) (s st : S8) (q : Nat) (t : TypeId) (v : Value) (wr : World) : Prop :=
  ∃ k : Nat, k ≤ 8 ∧ v = .int .i64 k ∧ Below W.heap.size W wr ∧ Blk wr W.heap.size t s.row ∧ Blk wr (W.heap.size + 1 + 1) t (zeroRow 8) ∧ Blk wr q t (rowOf (addF s st k))
theorem info8s : (Try.prog.info? 40).map (·.size) = some 8 := by kernel_rfl
theorem info_u32 : (Try.prog.info? 38).map (fun i => (i.zero, i.size, i.bytes)) = some (some (.int .u32 0), 1, 4) := by kernel_rfl
set_option maxRecDepth 100000 in
set_option maxHeartbeats 4000000 in
theorem take_state (s : S8) (l : Nat → Int) (W : World) (hl : ∀ i, i < 64 → 0 ≤ l i ∧ l i ≤ 255) :
    Calls Try.prog 33 #[.agg s.row, .agg (bRow l)] W fun e w' => e = .returned (.agg (comp s l).row) ∧ Below W.heap.size W w' := by
  have HL := hide hl
  clear hl
  go_enter Try.func33, Try.ntmps33
  go_wp2_with fail
  go_loopw [22] (fun v wr => WordRel W s l 40 41 77 v wr) (fun v _ => 64 - (intOf v).toNat)
  case atStart =>
    have H1 := Blk.new W 40 s.row
    have H2 := Blk.new (W.alloc (.cells s.row 40)) 41 (bRow l)
    have H3 := Blk.new ((W.alloc (.cells s.row 40)).alloc (.cells (bRow l) 41)) 40 (zeroRow 8)
    have H4 := Blk.new (((W.alloc (.cells s.row 40)).alloc (.cells (bRow l) 41)).alloc (.cells (zeroRow 8) 40)) 77 (wRow l 0)
    rw [World.size_alloc] at H2
    rw [World.size_alloc, World.size_alloc] at H3
    rw [World.size_alloc, World.size_alloc, World.size_alloc] at H4
    exact ⟨0, by omega, rfl, ((((Below.refl _ _).alloc (Nat.le_refl _) _).alloc (by simp) _).alloc (by simp <;> omega) _).alloc (by simp <;> omega) _, ((H1.alloc _).alloc _).alloc _, (H2.alloc _).alloc _, H3.alloc _, H4⟩
  case round =>
    obtain ⟨k, hk, rfl, L, B1, B2, B3, B4⟩ := hrel
    have hN : W.heap.size + 1 + 1 + 1 < wr.heap.size := B4.lt
    by_cases hlt : k < 16
    · have g0 := cell_grows B2.drew (bRow_at l (4 * k) (by omega))
      have g1 := cell_grows B2.drew (bRow_at l (4 * k + 1) (by omega))
      have g2 := cell_grows B2.drew (bRow_at l (4 * k + 2) (by omega))
      have g3 := cell_grows B2.drew (bRow_at l (4 * k + 3) (by omega))
      obtain ⟨r0, q0⟩ := HL.out (4 * k) (by omega)
      obtain ⟨r1, q1⟩ := HL.out (4 * k + 1) (by omega)
      obtain ⟨r2, q2⟩ := HL.out (4 * k + 2) (by omega)
      obtain ⟨r3, q3⟩ := HL.out (4 * k + 3) (by omega)
      have HX := hide ((bw_un l k).trans (congrArg un (wF_lo l k hlt).symm))
      obtain ⟨v, hv⟩ := wRow_at' l k k (by omega)
      generalize l (4 * k) = x0 at *
      generalize l (4 * k + 1) = x1 at *
      generalize l (4 * k + 2) = x2 at *
      generalize l (4 * k + 3) = x3 at *
      go_wp2_with fail
      refine wp_region_kinds 31 (by kernel_rfl) (by kernel_rfl) (fun F hF => ?_)
      repeat (first
        | refine kinds_move_is _ rfl (Or.inl rfl) rfl ?_
        | refine kinds_move_is _ rfl (Or.inr rfl) rfl ?_
        | refine kinds_off rfl rfl rfl rfl ?_
        | refine kinds_off' rfl rfl rfl ?_
        | ((first | refine kinds_on rfl rfl rfl ?_ | skip)
           apply kinds_is rfl
           · intro ρ wv K hw hf hK
             first | obtain ⟨e0, e1, e2, e3, e4, e5, e6, -⟩ := hf | obtain ⟨e0, e1, e2, e3, e4, e5, -⟩ := hf | obtain ⟨e0, e1, e2, e3, e4, -⟩ := hf | obtain ⟨e0, e1, e2, e3, -⟩ := hf | obtain ⟨e0, e1, e2, -⟩ := hf | obtain ⟨e0, e1, -⟩ := hf | obtain ⟨e0, -⟩ := hf | clear hf
             (try change ρ _ = _ at e0)
             (try change ρ _ = _ at e1)
             (try change ρ _ = _ at e2)
             (try change ρ _ = _ at e3)
             unfold gives
             go_simp
             (try go_ints)
             (try rw [if_pos (by omega)])
             exact hK _ (Grows.refl _)))
      refine kinds_nil (hF _ rfl rfl (fun ww hg => ?_))
      clear hF F
      simp only [pushSlot, finish, Act.put, List.setIfInBounds_toArray, List.set_cons_succ, List.set_cons_zero]
      simp only [List.drop_succ_cons, List.drop_zero]
      have L' := below_trans_grows L.drew hg L.size
      have B1' := B1.drew.below hg B1.lt
      have B2' := B2.drew.below hg B2.lt
      have B3' := B3.drew.below hg B3.lt
      have B4' := B4.drew.below hg B4.lt
      have c4 := (B4'.cell k).trans hv
      have z4 := B4'.frozen k
      clear hg hv g0 g1 g2 g3
      go_wp2_with fail
      go_roundw
      case rel =>
        refine ⟨k + 1, by omega, by go_num, L'.setCell (p := ⟨W.heap.size + 1 + 1 + 1, k, none⟩) (by simp <;> omega) _, B1'.far (by simp <;> omega) _, B2'.far (by simp <;> omega) _, B3'.far (by simp) _, ?_⟩
        have H := B4'.set_ k (uv (wF l k))
        rw [wRow_set l k (by omega)] at H
        unfold uv at H
        rw [← HX.out] at H
        exact H
      case measure => simp [intOf]; omega
    · by_cases hlt2 : k < 64
      · obtain ⟨j, rfl⟩ : ∃ j, k = j + 16 := ⟨k - 16, by omega⟩
        have g1 := cell_grows B4.drew (wRow_at l (j + 16) (j + 1) (by omega) (by omega))
        have g14 := cell_grows B4.drew (wRow_at l (j + 16) (j + 14) (by omega) (by omega))
        have HX := hide (wF_hi' l j)
        have hl0 := wRow_at l (j + 16) j (by omega) (by omega)
        have hl9 := wRow_at l (j + 16) (j + 9) (by omega) (by omega)
        obtain ⟨v, hv⟩ := wRow_at' l (j + 16) (j + 16) (by omega)
        generalize wF l (j + 1) = y1 at *
        generalize wF l (j + 14) = y14 at *
        generalize wF l (j + 9) = y9 at *
        generalize wF l j = y0 at *
        unfold uv at g1 g14
        go_wp2_with fail
        refine wp_region_kinds 10 (by kernel_rfl) (by kernel_rfl) (fun F hF => ?_)
        repeat (first
          | refine kinds_move_is _ rfl (Or.inl rfl) rfl ?_
          | refine kinds_move_is _ rfl (Or.inr rfl) rfl ?_
          | refine kinds_off rfl rfl rfl rfl ?_
          | refine kinds_off' rfl rfl rfl ?_
          | ((first | refine kinds_on rfl rfl rfl ?_ | skip)
             apply kinds_is rfl
             · intro ρ wv K hw hf hK
               first | obtain ⟨e0, e1, e2, e3, e4, e5, e6, -⟩ := hf | obtain ⟨e0, e1, e2, e3, e4, e5, -⟩ := hf | obtain ⟨e0, e1, e2, e3, e4, -⟩ := hf | obtain ⟨e0, e1, e2, e3, -⟩ := hf | obtain ⟨e0, e1, e2, -⟩ := hf | obtain ⟨e0, e1, -⟩ := hf | obtain ⟨e0, -⟩ := hf | clear hf
               (try change ρ _ = _ at e0)
               (try change ρ _ = _ at e1)
               (try change ρ _ = _ at e2)
               (try change ρ _ = _ at e3)
               unfold gives
               go_simp
               (try go_ints)
               (try rw [if_pos (by omega)])
               exact hK _ (Grows.refl _)))
        refine kinds_nil (hF _ rfl rfl (fun ww hg => ?_))
        clear hF F
        simp only [pushSlot, finish, Act.put, List.setIfInBounds_toArray, List.set_cons_succ, List.set_cons_zero]
        simp only [List.drop_succ_cons, List.drop_zero]
        have L1 := below_trans_grows L.drew hg L.size
        have B11 := B1.drew.below hg B1.lt
        have B21 := B2.drew.below hg B2.lt
        have B31 := B3.drew.below hg B3.lt
        have B41 := B4.drew.below hg B4.lt
        clear hg g1 g14 L B1 B2 B3 B4
        have g0 := cell_grows B41.drew hl0
        have g9 := cell_grows B41.drew hl9
        unfold uv at g0 g9
        go_wp2_with fail
        obtain ⟨wx, wa, wo, wad, wad', w3, w10, wn, sgn⟩ := w_rules
        obtain ⟨rs0, rs1⟩ := rules_mix
        refine wp_region_kinds 25 (by kernel_rfl) (by kernel_rfl) (fun F hF => ?_)
        repeat (first
          | refine kinds_move_is _ rfl (Or.inl rfl) rfl ?_
          | refine kinds_move_is _ rfl (Or.inr rfl) rfl ?_
          | (apply kinds_like (Ks [7, 18]) (Ks.stable _) rfl
             · intro ρ wv K hw hf hK
               obtain ⟨e0, e1, -⟩ := hf
               change ρ _ = _ at e0
               change ρ _ = _ at e1
               unfold gives
               go_simp
               exact hK _ _ ((Below.refl _ _).alloc (Nat.le_refl _) _) ⟨_, rfl, Blk.new _ _ _⟩)
          | (apply kinds_like (Ks [17, 19]) (Ks.stable _) rfl
             · intro ρ wv K hw hf hK
               obtain ⟨e0, e1, -⟩ := hf
               change ρ _ = _ at e0
               change ρ _ = _ at e1
               unfold gives
               go_simp
               exact hK _ _ ((Below.refl _ _).alloc (Nat.le_refl _) _) ⟨_, rfl, Blk.new _ _ _⟩)
          | (apply kinds_is rfl
             · intro ρ wv K hw hf hK
               obtain ⟨e0, e1, e2, -⟩ := hf
               change ρ _ = _ at e0
               change ρ _ = _ at e1
               change Ks [7, 18] _ _ at e2
               have e2 := hide e2
               unfold gives
               go_simp
               change Calls _ _ _ _ _
               go_at_call 35
               refine (mix_ks _ [7, 18] _ _ e2.out (by decide) (by decide)).mono ?_
               rintro e w' ⟨rfl, rfl⟩
               exact ⟨_, rfl, hK _ (Grows.refl _)⟩)
          | (apply kinds_is rfl
             · intro ρ wv K hw hf hK
               obtain ⟨e0, e1, e2, -⟩ := hf
               change ρ _ = _ at e0
               change ρ _ = _ at e1
               change Ks [17, 19] _ _ at e2
               have e2 := hide e2
               unfold gives
               go_simp
               change Calls _ _ _ _ _
               go_at_call 35
               refine (mix_ks _ [17, 19] _ _ e2.out (by decide) (by decide)).mono ?_
               rintro e w' ⟨rfl, rfl⟩
               exact ⟨_, rfl, hK _ (Grows.refl _)⟩)
          | refine kinds_off rfl rfl rfl rfl ?_
          | refine kinds_off' rfl rfl rfl ?_
          | ((first | refine kinds_on rfl rfl rfl ?_ | skip)
             apply kinds_is rfl
             · intro ρ wv K hw hf hK
               first | obtain ⟨e0, e1, e2, e3, e4, e5, e6, -⟩ := hf | obtain ⟨e0, e1, e2, e3, e4, e5, -⟩ := hf | obtain ⟨e0, e1, e2, e3, e4, -⟩ := hf | obtain ⟨e0, e1, e2, e3, -⟩ := hf | obtain ⟨e0, e1, e2, -⟩ := hf | obtain ⟨e0, e1, -⟩ := hf | obtain ⟨e0, -⟩ := hf | clear hf
               (try change ρ _ = _ at e0)
               (try change ρ _ = _ at e1)
               (try change ρ _ = _ at e2)
               (try change ρ _ = _ at e3)
               unfold gives
               go_simp
               (try go_ints)
               (try rw [if_pos (by omega)])
               exact hK _ (Grows.refl _)))
        refine kinds_nil (hF _ rfl rfl (fun ww hg => ?_))
        clear hF F
        simp only [pushSlot, finish, Act.put, List.setIfInBounds_toArray, List.set_cons_succ, List.set_cons_zero]
        simp only [List.drop_succ_cons, List.drop_zero]
        intro t77 _ t84 _
        have L2 := below_trans_grows L1.drew hg L1.size
        have B12 := B11.drew.below hg B11.lt
        have B22 := B21.drew.below hg B21.lt
        have B32 := B31.drew.below hg B31.lt
        have B42 := B41.drew.below hg B41.lt
        have c4 := (B42.cell (j + 16)).trans hv
        have z4 := B42.frozen (j + 16)
        clear wx wa wo wad wad' w3 w10 wn sgn rs0 rs1 hg hv hl0 hl9 g0 g9 L1 B11 B21 B31 B41
        go_wp2_with fail
        go_roundw
        case rel =>
          refine ⟨j + 16 + 1, by omega, by go_num, L2.setCell (p := ⟨W.heap.size + 1 + 1 + 1, j + 16, none⟩) (by simp <;> omega) _, B12.far (by simp <;> omega) _, B22.far (by simp <;> omega) _, B32.far (by simp) _, ?_⟩
          have H := B42.set_ (j + 16) (uv (wF l (j + 16)))
          rw [wRow_set l (j + 16) (by omega)] at H
          unfold uv at H
          rw [HX.out] at H
          exact H
        case measure => simp [intOf]; omega
      · obtain rfl : k = 64 := by omega
        have qs0 := B1.cell 0
        have qs1 := B1.cell 1
        have qs2 := B1.cell 2
        have qs3 := B1.cell 3
        have qs4 := B1.cell 4
        have qs5 := B1.cell 5
        have qs6 := B1.cell 6
        have qs7 := B1.cell 7
        simp only [S8.row, uv, List.getElem?_toArray, List.getElem?_cons_zero, List.getElem?_cons_succ] at qs0 qs1 qs2 qs3 qs4 qs5 qs6 qs7
        go_wp2_with fail
        have L4 : Below W.heap.size W (wr.alloc (.cells s.row 40)) := L.alloc L.size _
        have B14 : Blk (wr.alloc (.cells s.row 40)) W.heap.size 40 s.row := B1.alloc _
        have B34 : Blk (wr.alloc (.cells s.row 40)) (W.heap.size + 1 + 1) 40 (zeroRow 8) := B3.alloc _
        have B44 : Blk (wr.alloc (.cells s.row 40)) (W.heap.size + 1 + 1 + 1) 77 (wRow l 64) := B4.alloc _
        have B54 : Blk (wr.alloc (.cells s.row 40)) wr.heap.size 40 s.row := Blk.new _ _ _
        clear L B1 B2 B3 B4 qs0 qs1 qs2 qs3 qs4 qs5 qs6 qs7
        change Calls _ _ _ (wr.alloc (.cells s.row 40)) _
        generalize wr.alloc (.cells s.row 40) = w4 at *
        generalize wr.heap.size = q at *
        refine (steps_any w4).mono ?_
        rintro e w5 ⟨rfl, h5⟩
        have L5 : Below W.heap.size W w5 := L4.trans (h5.mono L4.size)
        have B15 := B14.below h5 B14.lt
        have B35 := B34.below h5 B34.lt
        have B45 := B44.below h5 B44.lt
        have B55 := B54.below h5 B54.lt
        clear L4 B14 B34 B44 B54 h5
        go_wp2_with fail
        go_loopw [94] (fun v wr => RoundRel2 W s l q 40 77 v wr) (fun v _ => 64 - (intOf v).toNat)
        case atStart => exact ⟨0, by omega, rfl, L5, B15, B35, B45, B55⟩
        case round =>
          clear L5 B15 B35 B45 B55
          obtain ⟨k, hk, rfl, L, B1, B3, B4, B5⟩ := hrel
          by_cases hlt : k < 64
          · have HX := hide (show (rnds s l (k + 1)) = rnd (rnds s l k) (kW k) (wF l k) from rfl)
            have hkk := kVals_at k hlt
            have hwk := wRow_at l 64 k hlt (by omega)
            generalize rnds s l k = st at *
            generalize kW k = kk at *
            generalize wF l k = wk at *
            obtain ⟨sa, sb, sc, sd, se, sf, sg, sh⟩ := st
            have g0 := cell_grows B5.drew (i := 0) (v := uv sa) rfl
            have g1 := cell_grows B5.drew (i := 1) (v := uv sb) rfl
            have g2 := cell_grows B5.drew (i := 2) (v := uv sc) rfl
            have g3 := cell_grows B5.drew (i := 3) (v := uv sd) rfl
            have g4 := cell_grows B5.drew (i := 4) (v := uv se) rfl
            have g5 := cell_grows B5.drew (i := 5) (v := uv sf) rfl
            have g6 := cell_grows B5.drew (i := 6) (v := uv sg) rfl
            have g7 := cell_grows B5.drew (i := 7) (v := uv sh) rfl
            unfold uv at hkk g0 g1 g2 g3 g4 g5 g6 g7
            obtain ⟨i0, hi0, _, hi1, _⟩ := info_parts info_u32
            have hidx : ∀ w, (Instr.index 77 (.agg kVals) (.int .i64 (k : Int))).run Try.prog w = .ok (.int .u32 (un kk)) w := run_index_agg 77 38 64 kVals .i64 .u32 k _ i0 Try.underlying77 hi0 hi1 Try.underlying38 hlt hkk
            clear hkk hi0 hi1
            go_wp2_with fail
            refine wp_region_kinds 24 (by kernel_rfl) (by kernel_rfl) (fun F hF => ?_)
            repeat (first
              | refine kinds_move_is _ rfl (Or.inl rfl) rfl ?_
              | refine kinds_move_is _ rfl (Or.inr rfl) rfl ?_
              | refine kinds_off rfl rfl rfl rfl ?_
              | refine kinds_off' rfl rfl rfl ?_
              | ((first | refine kinds_on rfl rfl rfl ?_ | skip)
                 apply kinds_is rfl
                 · intro ρ wv K hw hf hK
                   first | obtain ⟨e0, e1, e2, e3, e4, e5, e6, -⟩ := hf | obtain ⟨e0, e1, e2, e3, e4, e5, -⟩ := hf | obtain ⟨e0, e1, e2, e3, e4, -⟩ := hf | obtain ⟨e0, e1, e2, e3, -⟩ := hf | obtain ⟨e0, e1, e2, -⟩ := hf | obtain ⟨e0, e1, -⟩ := hf | obtain ⟨e0, -⟩ := hf | clear hf
                   (try change ρ _ = _ at e0)
                   (try change ρ _ = _ at e1)
                   (try change ρ _ = _ at e2)
                   (try change ρ _ = _ at e3)
                   unfold gives
                   go_simp
                   (try go_ints)
                   (try rw [if_pos (by omega)])
                   exact hK _ (Grows.refl _)))
            refine kinds_nil (hF _ rfl rfl (fun ww hg => ?_))
            clear hF F
            simp only [pushSlot, finish, Act.put, List.setIfInBounds_toArray, List.set_cons_succ, List.set_cons_zero]
            simp only [List.drop_succ_cons, List.drop_zero]
            have L1 := below_trans_grows L.drew hg L.size
            have B11 := B1.drew.below hg B1.lt
            have B31 := B3.drew.below hg B3.lt
            have B41 := B4.drew.below hg B4.lt
            have B51 := B5.drew.below hg B5.lt
            clear hidx hg g0 g1 g2 g3 g4 g5 g6 g7 L B1 B3 B4 B5
            have gw := cell_grows B41.drew hwk
            unfold uv at gw
            go_wp2_with fail
            obtain ⟨wx, wa, wo, wad, wad', w3, w10, wn, sgn⟩ := w_rules
            refine wp_region_kinds 20 (by kernel_rfl) (by kernel_rfl) (fun F hF => ?_)
            repeat (first
              | refine kinds_move_is _ rfl (Or.inl rfl) rfl ?_
              | refine kinds_move_is _ rfl (Or.inr rfl) rfl ?_
              | (apply kinds_like (Ks [6, 11, 25]) (Ks.stable _) rfl
                 · intro ρ wv K hw hf hK
                   obtain ⟨e0, e1, e2, -⟩ := hf
                   change ρ _ = _ at e0
                   change ρ _ = _ at e1
                   change ρ _ = _ at e2
                   unfold gives
                   go_simp
                   exact hK _ _ ((Below.refl _ _).alloc (Nat.le_refl _) _) ⟨_, rfl, Blk.new _ _ _⟩)
              | (apply kinds_is rfl
                 · intro ρ wv K hw hf hK
                   obtain ⟨e0, e1, e2, -⟩ := hf
                   change ρ _ = _ at e0
                   change ρ _ = _ at e1
                   change Ks [6, 11, 25] _ _ at e2
                   have e2 := hide e2
                   unfold gives
                   go_simp
                   change Calls _ _ _ _ _
                   go_at_call 35
                   refine (mix_ks _ [6, 11, 25] _ _ e2.out (by decide) (by decide)).mono ?_
                   rintro e w' ⟨rfl, rfl⟩
                   exact ⟨_, rfl, hK _ (Grows.refl _)⟩)
              | refine kinds_off rfl rfl rfl rfl ?_
              | refine kinds_off' rfl rfl rfl ?_
              | ((first | refine kinds_on rfl rfl rfl ?_ | skip)
                 apply kinds_is rfl
                 · intro ρ wv K hw hf hK
                   first | obtain ⟨e0, e1, e2, e3, e4, e5, e6, -⟩ := hf | obtain ⟨e0, e1, e2, e3, e4, e5, -⟩ := hf | obtain ⟨e0, e1, e2, e3, e4, -⟩ := hf | obtain ⟨e0, e1, e2, e3, -⟩ := hf | obtain ⟨e0, e1, e2, -⟩ := hf | obtain ⟨e0, e1, -⟩ := hf | obtain ⟨e0, -⟩ := hf | clear hf
                   (try change ρ _ = _ at e0)
                   (try change ρ _ = _ at e1)
                   (try change ρ _ = _ at e2)
                   (try change ρ _ = _ at e3)
                   unfold gives
                   go_simp
                   (try go_ints)
                   (try rw [if_pos (by omega)])
                   exact hK _ (Grows.refl _)))
            refine kinds_nil (hF _ rfl rfl (fun ww hg => ?_))
            clear hF F
            simp only [pushSlot, finish, Act.put, List.setIfInBounds_toArray, List.set_cons_succ, List.set_cons_zero]
            simp only [List.drop_succ_cons, List.drop_zero]
            intro t116 _
            have L2 := below_trans_grows L1.drew hg L1.size
            have B12 := B11.drew.below hg B11.lt
            have B32 := B31.drew.below hg B31.lt
            have B42 := B41.drew.below hg B41.lt
            have B52 := B51.drew.below hg B51.lt
            clear hg gw hwk wx wa wo wad wad' w3 w10 wn sgn L1 B11 B31 B41 B51
            go_wp2_with fail
            refine (mix_ks _ [2, 13, 22] _ _ ⟨_, rfl, Blk.new _ _ _⟩ (by decide) (by decide)).mono ?_
            rintro e w6 ⟨rfl, hw6⟩
            have L3 : Below W.heap.size W w6 := hw6 ▸ L2.alloc L2.size _
            have B13 : Blk w6 W.heap.size 40 s.row := hw6 ▸ B12.alloc _
            have B33 : Blk w6 (W.heap.size + 1 + 1) 40 (zeroRow 8) := hw6 ▸ B32.alloc _
            have B43 : Blk w6 (W.heap.size + 1 + 1 + 1) 77 (wRow l 64) := hw6 ▸ B42.alloc _
            have B53 : Blk w6 q 40 (S8.row ⟨sa, sb, sc, sd, se, sf, sg, sh⟩) := hw6 ▸ B52.alloc _
            clear hw6 L2 B12 B32 B42 B52
            have q0 := B53.cell 0
            have q1 := B53.cell 1
            have q2 := B53.cell 2
            have q3 := B53.cell 3
            have q4 := B53.cell 4
            have q5 := B53.cell 5
            have q6 := B53.cell 6
            have q7 := B53.cell 7
            have hz := B53.frozen
            simp only [S8.row, uv, List.getElem?_toArray, List.getElem?_cons_zero, List.getElem?_cons_succ] at q0 q1 q2 q3 q4 q5 q6 q7
            go_wp2
            go_roundw
            case rel =>
              rw [w_and, w_and, w_and, w_xor, w_xor, w_add3, w_add', mixS_three, mixS_three, BitVec.add_assoc _ (rr sa 2 ^^^ rr sa 13 ^^^ rr sa 22)]
              refine ⟨k + 1, by omega, by go_num, ?_, ?_, ?_, ?_, ?_⟩
              · repeat (refine Below.setCell ?_ (by simp <;> omega) _)
                exact L3
              · repeat (refine Blk.far ?_ (by simp <;> omega) _)
                exact B13
              · repeat (refine Blk.far ?_ (by simp <;> omega) _)
                exact B33
              · repeat (refine Blk.far ?_ (by simp <;> omega) _)
                exact B43
              · rw [HX.out]
                exact B53.all8 _ _ _ _ _ _ _ _
            case measure => simp [intOf]; omega
          · obtain rfl : k = 64 := by omega
            go_wp2_with fail
            go_loopw [161] (fun v wr => AddRel2 W s (rnds s l 64) q 40 v wr) (fun v _ => 8 - (intOf v).toNat)
            case atStart => exact ⟨0, by omega, rfl, L, B1, B3, by rw [addF_zero]; exact B5⟩
            case round =>
              clear L B1 B3 B4 B5
              obtain ⟨k, hk, rfl, L, B1, B3, B5⟩ := hrel
              by_cases hlt : k < 8
              · have HS := hide (addF_succ s (rnds s l 64) k)
                have HT := hide (rowOf_set (addF s (rnds s l 64) k) k hlt (addF s (rnds s l 64) k k + s.get k))
                have g1 := cell_grows B1.drew (rowOf_at s.get k hlt)
                have g4 := cell_grows B5.drew (rowOf_at (addF s (rnds s l 64) k) k hlt)
                generalize addF s (rnds s l 64) k k = y4 at *
                generalize s.get k = y1 at *
                unfold uv at g1 g4
                go_wp2_with fail
                obtain ⟨wx, wa, wo, wad, wad', w3, w10, wn, sgn⟩ := w_rules
                refine wp_region_kinds 8 (by kernel_rfl) (by kernel_rfl) (fun F hF => ?_)
                repeat (first
                  | refine kinds_move_is _ rfl (Or.inl rfl) rfl ?_
                  | refine kinds_move_is _ rfl (Or.inr rfl) rfl ?_
                  | refine kinds_off rfl rfl rfl rfl ?_
                  | refine kinds_off' rfl rfl rfl ?_
                  | ((first | refine kinds_on rfl rfl rfl ?_ | skip)
                     apply kinds_is rfl
                     · intro ρ wv K hw hf hK
                       first | obtain ⟨e0, e1, e2, e3, e4, e5, e6, -⟩ := hf | obtain ⟨e0, e1, e2, e3, e4, e5, -⟩ := hf | obtain ⟨e0, e1, e2, e3, e4, -⟩ := hf | obtain ⟨e0, e1, e2, e3, -⟩ := hf | obtain ⟨e0, e1, e2, -⟩ := hf | obtain ⟨e0, e1, -⟩ := hf | obtain ⟨e0, -⟩ := hf | clear hf
                       (try change ρ _ = _ at e0)
                       (try change ρ _ = _ at e1)
                       (try change ρ _ = _ at e2)
                       (try change ρ _ = _ at e3)
                       unfold gives
                       go_simp
                       (try go_ints)
                       (try rw [if_pos (by omega)])
                       exact hK _ (Grows.refl _)))
                refine kinds_nil (hF _ rfl rfl (fun ww hg => ?_))
                clear hF F
                simp only [pushSlot, finish, Act.put, List.setIfInBounds_toArray, List.set_cons_succ, List.set_cons_zero]
                simp only [List.drop_succ_cons, List.drop_zero]
                have L1 := below_trans_grows L.drew hg L.size
                have B11 := B1.drew.below hg B1.lt
                have B31 := B3.drew.below hg B3.lt
                have B51 := B5.drew.below hg B5.lt
                have c4 := g4 ww hg
                have z4 := B51.frozen k
                clear wx wa wo wad wad' w3 w10 wn sgn g1 g4 hg L B1 B3 B5
                go_wp2
                go_roundw
                case rel =>
                  refine ⟨k + 1, by omega, by go_num, L1.setCell (p := ⟨q, k, none⟩) (by simp <;> omega) _, B11.far (by simp <;> omega) _, B31.far (by simp <;> omega) _, ?_⟩
                  rw [HS.out] at HT
                  rw [← HT.out]
                  exact B51.set_ k _
                case measure => simp [intOf]; omega
              · obtain rfl : k = 8 := by omega
                rw [addF_all] at B5
                have q0 := B5.cell 0
                have q1 := B5.cell 1
                have q2 := B5.cell 2
                have q3 := B5.cell 3
                have q4 := B5.cell 4
                have q5 := B5.cell 5
                have q6 := B5.cell 6
                have q7 := B5.cell 7
                have r0 := B3.cell 0
                have r1 := B3.cell 1
                have r2 := B3.cell 2
                have r3 := B3.cell 3
                have r4 := B3.cell 4
                have r5 := B3.cell 5
                have r6 := B3.cell 6
                have r7 := B3.cell 7
                have hz := B3.frozen
                simp only [S8.row, uv, List.getElem?_toArray, List.getElem?_cons_zero, List.getElem?_cons_succ] at q0 q1 q2 q3 q4 q5 q6 q7
                simp only [zeroRow, List.replicate, List.getElem?_toArray, List.getElem?_cons_zero, List.getElem?_cons_succ] at r0 r1 r2 r3 r4 r5 r6 r7
                have HBR := hide (B3.all8 (uv (comp s l).a) (uv (comp s l).b) (uv (comp s l).c) (uv (comp s l).d) (uv (comp s l).e) (uv (comp s l).f) (uv (comp s l).g) (uv (comp s l).h))
                have HL := hide L
                clear L
                go_wp2
                refine bodyPost_ret (results_cell_row rfl _ _ (W.heap.size + 1 + 1) 40 (comp s l).row (0, 0) _ rfl HBR.out Try.underlying40 rfl info8s) rfl ⟨rfl, ?_⟩
                repeat (refine Below.setCell ?_ (by simp <;> omega) _)
                exact HL.out
end Go.Proofs.Ytajbbajdglnecaa
