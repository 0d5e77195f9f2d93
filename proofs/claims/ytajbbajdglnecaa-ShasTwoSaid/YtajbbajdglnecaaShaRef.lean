/- The document's answer for the hash of bytes. -/
import Derived.Test.YtajbbajdglnecaaShaO
import Derived.Lib.SlBytesRow
namespace Go.Proofs.Ytajbbajdglnecaa
open Go Go.RowKit

def vals (l : List Int) : List Value := l.map (Value.int .u8)
theorem BytesAt.reads {w : World} {A : Option Addr} {n c : Nat} {l : List Int} (h : BytesAt w (.slice A n c) l) : Reads w w.heap.size 1 A n (vals l) := by
  cases h with
  | none A cap => exact Reads.none_
  | some g o n cap l hl h0 hcap hm hw hc =>
    refine ⟨by unfold vals; simp [hl], fun _ => ⟨⟨g, o, Option.none⟩, rfl, lt_of_cell (hc 0 h0), fun j u hu => ?_⟩⟩
    unfold vals at hu
    have hj : j < n := by
      rcases Nat.lt_or_ge j n with h | h
      · exact h
      · rw [List.getElem?_eq_none (by simp; omega)] at hu; cases hu
    rw [List.getElem?_map, List.getElem?_eq_getElem (by omega), Option.map_some] at hu
    rw [Addr.add_mid, hc j hj, ← hu]
    unfold at_
    rw [List.getD_eq_getElem?_getD, List.getElem?_eq_getElem (by omega), Option.getD_some]
theorem BytesAt.len {w : World} {v : Value} {l : List Int} (h : BytesAt w v l) : ∃ A c, v = .slice A l.length c := by
  cases h with
  | none A cap => exact ⟨A, cap, rfl⟩
  | some g o n cap l hl h0 hcap hm hw hc => exact ⟨_, cap, by rw [hl]⟩
theorem vals_one (l : List Int) : ∀ u ∈ vals l, u.oneCell' = true := by
  intro u hu
  unfold vals at hu
  obtain ⟨x, _, rfl⟩ := List.mem_map.1 hu
  rfl
def PadRel2 (w : World) (e0 M : Nat) (t5 t48 : TypeId) (xs : List Value) (v : Value) (wr : World) : Prop :=
  ∃ k, k ≤ padZ M ∧ Below w.heap.size w wr ∧ e0 ≤ wr.heap.size ∧ Blk wr w.heap.size t48 noughts ∧ wr.ownsRow e0 t5 1 v (M + (k + 1)) (xs ++ pz k)
def LenRel2 (w : World) (e0 M z : Nat) (t5 t48 : TypeId) (ys : List Value) (v i : Value) (wr : World) : Prop :=
  ∃ k, k ≤ 8 ∧ i = .int .i64 (k : Nat) ∧ Below w.heap.size w wr ∧ e0 ≤ wr.heap.size ∧ Blk wr w.heap.size t48 noughts ∧ wr.ownsRow e0 t5 1 v (M + (z + 1) + k) (ys ++ ((lenB (8 * M)).map (Value.int .u8)).take k)
def BlkRel (w : World) (g hb kg N : Nat) (t48 t39 t38 : TypeId) (f : Nat → Int) (i : Value) (wr : World) : Prop :=
  ∃ j, 64 * j ≤ N ∧ i = .int .i64 (64 * (j : Int)) ∧ Below w.heap.size w wr ∧ Blk wr w.heap.size t48 noughts ∧ Blk wr hb t39 (hS f j).row ∧ (∀ i, i < N → wr.cell? ⟨g, i, none⟩ = some (.int .u8 (f i))) ∧ Blk wr kg t38 kVals
def OutRel2 (w : World) (hb ob : Nat) (t48 t39 : TypeId) (s : S8) (i : Value) (wr : World) : Prop :=
  ∃ k, k ≤ 32 ∧ i = .int .i64 (k : Nat) ∧ Below w.heap.size w wr ∧ Blk wr w.heap.size t48 noughts ∧ Blk wr hb t39 s.row ∧ Blk wr ob t48 (outRow s k)
theorem row_one (s : S8) : s.row.all (·.oneCell') = true := by simp [S8.row, uv, Value.oneCell']
theorem row_size (s : S8) : s.row.size = 8 := rfl
theorem setRow_cell_far {w : World} {g hb : Nat} {cs : Array Value} (i : Nat) (h : g ≠ hb) : (w.setRow hb cs).cell? ⟨g, i, none⟩ = w.cell? ⟨g, i, none⟩ := by
  unfold World.cell?
  simp only [World.setRow, Array.getElem?_modify]
  rw [if_neg (by omega)]
theorem hS_succ (f : Nat → Int) (j : Nat) : hS f (j + 1) = comp (hS f j) (fun i => f (64 * j + i)) := by rw [hS]
theorem info8r : (Try.prog.info? 39).map (·.size) = some 8 := by kernel_rfl
theorem outB_un2 (s : S8) (k : Nat) : un (s.get (k / 4)) / 2 ^ (24 - 8 * (k % 4)) % 256 = outB s k := by
  rw [Nat.mul_comm]
  exact outB_un s k
set_option maxRecDepth 100000 in
set_option maxHeartbeats 4000000 in
theorem ref_any (v : Value) (l : List Int) (w : World) (hx : BytesAt w v l) (hbig : l.length ≤ 1099511627776) :
    Calls Try.prog 21 #[v] w (HashEnds w (shaRow l)) := by
  obtain ⟨A, c, rfl⟩ := hx.len
  have HX := hide hx
  clear hx
  go_enter Try.func21, Try.ntmps21
  go_upto_region 1 with fail
  have R1 := Blk.new w 48 noughts
  have L1 : Below w.heap.size w (w.alloc (.cells noughts 48)) := (Below.refl _ _).alloc (Nat.le_refl _) _
  have hz1 : (w.alloc (.cells noughts 48)).heap.size = w.heap.size + 1 := World.size_alloc _ _
  change Code.wp _ _ _ _ (w.alloc (.cells noughts 48))
  generalize w.alloc (.cells noughts 48) = w1 at *
  have HZ1 := hide hz1
  have E0 : w1.ownsRow w1.heap.size 5 1 (.slice none 0 0) 0 [] := ⟨rfl, .inl ⟨rfl, rfl⟩⟩
  have HRD := hide (HX.out.grow L1).reads
  obtain ⟨i0, hi0, hi1, hi2, hi3⟩ := info_parts info_u8w
  have hr1 := R1.lt
  have hl1 := L1.size
  clear hz1
  generalize hM : l.length = M at *
  have HM := hide hM
  clear hM
  go_wp2_with (first
    | (at_builtin; refine wpList_append_any _ rfl _ _ 22 rfl w1.heap.size 5 i0 (.int .u8 0) 1 1 Try.underlying22 hi0 hi1 hi2 hi3 rfl (by decide) _ _ _ rfl E0 w1.heap.size A M c (vals l) rfl HRD.out (vals_one l) ?a1 ?a2 ?a3 ?_)
    | fail)
  case a1 => unfold maxLen; omega
  case a2 => omega
  case a3 => omega
  intro v2 w2 hown hgrow _
  have R2 := R1.grown hgrow (by simp [Value.ownBlock])
  have L2 := L1.grown hgrow L1.size (fun i hi => by simp [Value.ownBlock] at hi)
  have E2 : w2.ownsRow w1.heap.size 5 1 v2 M (vals l) := by simpa using hown
  have hz2 : w1.heap.size ≤ w2.heap.size := hgrow.size
  clear R1 L1 E0 HRD hown hgrow
  go_wp2_with (at_builtin; refine wpList_append_own _ rfl _ _ 22 rfl w1.heap.size 5 i0 (.int .u8 0) 1 1 Try.underlying22 hi0 hi1 hi2 hi3 rfl (by decide) _ _ _ rfl (E2.alloc _) ⟨w2.heap.size, 0, none⟩ 1 1 [.int .u8 128] rfl rfl ?b1 ?b2 ?b3 ?b4 ?b5 ?_)
  case b1 => exact World.news_of_block (cs := #[.int .u8 128]) (t := 5) (fr := (0, 0)) (heap_alloc_new w2 _)
  case b2 => simp [Value.oneCell']
  case b3 => unfold maxLen; omega
  case b4 => omega
  case b5 => simp; omega
  intro v3 w3 hown hgrow _
  have hv2 : ∀ i, v2.ownBlock = some i → w1.heap.size ≤ i := by
    intro i hi
    rcases E2.2 with ⟨rfl, _⟩ | ⟨g, cap, cur, rfl, hb, _⟩
    · simp [Value.ownBlock] at hi
    · simp [Value.ownBlock] at hi; omega
  have R3 := (R2.alloc (.cells #[.int .u8 128] 5)).grown hgrow (fun e => by have := hv2 _ e.symm; omega)
  have L3 := (L2.alloc L2.size (.cells #[.int .u8 128] 5)).grown hgrow (by simp; have := L2.size; omega) (fun i hi => by have := hv2 i hi; omega)
  have hz3 : w1.heap.size ≤ w3.heap.size := by have := hgrow.size; simp at this; omega
  have HOW : Keep (w3.ownsRow w1.heap.size 5 1 v3 (M + 1) (vals l ++ pz 0)) := ⟨hown⟩
  have HZ3 := hide hz3
  clear R2 L2 E2 hz2 hv2 hown hgrow hz3
  obtain ⟨g3, cap3, rfl, hg30, hg31⟩ := HOW.out.form (by omega)
  clear hg31
  go_wp2_with fail
  generalize w1.heap.size = e0 at *
  go_loopw [3] (fun v wr => PadRel2 w e0 M 5 48 (vals l) v wr) (fun v _ => M + padZ M + 1 - lenOf v)
  case atStart => exact ⟨0, by omega, L3, HZ3.out, R3, HOW.out⟩
  case round =>
    clear L3 HZ3 R3 HOW
    obtain ⟨k, hk, L, hz, R, E⟩ := hrel
    obtain ⟨g, cap, rfl, hg0, hg1⟩ := E.form (by omega)
    have hpz : padZ M ≤ 63 := by unfold padZ; omega
    by_cases hkl : k < padZ M
    · have hT : (((M : Int) + ((k : Int) + 1)) % 64 != 56) = true := by
        rw [bne_iff_ne]
        unfold padZ at hkl
        omega
      go_wp2_with (at_builtin; refine wpList_append_own _ rfl _ _ 22 rfl e0 5 i0 (.int .u8 0) 1 1 Try.underlying22 hi0 hi1 hi2 hi3 rfl (by decide) _ _ _ rfl (E.alloc _) ⟨wr.heap.size, 0, none⟩ 1 1 [.int .u8 0] rfl rfl ?c1 ?c2 ?c3 ?c4 ?c5 ?_)
      case c1 => exact World.news_of_block (cs := #[.int .u8 0]) (t := 5) (fr := (0, 0)) (heap_alloc_new wr _)
      case c2 => simp [Value.oneCell']
      case c3 => unfold maxLen; omega
      case c4 => omega
      case c5 => simp; omega
      intro v' w' hown hgrow _
      have R' := (R.alloc (.cells #[.int .u8 0] 5)).grown hgrow (by simp [Value.ownBlock]; omega)
      have L' := (L.alloc L.size (.cells #[.int .u8 0] 5)).grown hgrow (by simp; have := L.size; omega) (fun i hi => by simp [Value.ownBlock] at hi; omega)
      have hz' : e0 ≤ w'.heap.size := by have := hgrow.size; simp at this; omega
      have hpe : vals l ++ (pz k ++ [.int .u8 0]) = vals l ++ pz (k + 1) := by unfold pz; rw [List.replicate_succ']; rfl
      rw [hpe] at hown
      obtain ⟨g', cap', rfl, _, _⟩ := hown.form (by omega)
      clear hgrow hpe R L E
      go_wp2_with fail
      go_roundw
      case rel => exact ⟨k + 1, by omega, L', hz', R', hown⟩
      case measure => simp [lenOf]; omega
    · obtain rfl : k = padZ M := by omega
      have hT : (((M : Int) + ((padZ M : Int) + 1)) % 64 != 56) = false := by
        rw [bne_eq_false_iff_eq]
        unfold padZ
        omega
      go_wp2_with fail
      have HE := hide E
      have HR := hide R
      have HL := hide L
      have HZ := hide hz
      clear E R L hz hT hk hkl
      generalize hpd : pz (padZ M) = pzl at *
      have HPD := hide hpd
      clear hpd
      generalize hzz : padZ M = z at *
      have HZZ := hide hzz
      clear hzz
      go_loopw [3, 5] (fun v i wr => LenRel2 w e0 M z 5 48 (vals l ++ pzl) v i wr) (fun _ i _ => 8 - (intOf i).toNat)
      case atStart => exact ⟨0, by omega, rfl, HL.out, HZ.out, HR.out, by simpa using HE.out⟩
      case round =>
        clear HL HZ HR HE
        obtain ⟨k, hk, rfl, L, hz, R, E⟩ := hrel
        obtain ⟨g, cap, rfl, hg0, hg1⟩ := E.form (by omega)
        by_cases hk8 : k < 8
        · have hsh0 : (0 : Int) ≤ 56 - 8 * (k : Int) := by omega
          have hsh1 : 56 - 8 * (k : Int) ≤ 56 := by omega
          go_wp2_with (at_builtin; refine wpList_append_own _ rfl _ _ 22 rfl e0 5 i0 (.int .u8 0) 1 1 Try.underlying22 hi0 hi1 hi2 hi3 rfl (by decide) _ _ _ rfl (E.alloc _) ⟨wr.heap.size, 0, none⟩ 1 1 [.int .u8 (8 * (M : Int) / 2 ^ (56 - 8 * k) % 256)] rfl rfl ?d1 ?d2 ?d3 ?d4 ?d5 ?_)
          case d1 => exact World.news_of_block (cs := #[.int .u8 (8 * (M : Int) / 2 ^ (56 - 8 * k) % 256)]) (t := 5) (fr := (0, 0)) (heap_alloc_new wr _)
          case d2 => simp [Value.oneCell']
          case d3 => unfold maxLen; omega
          case d4 => omega
          case d5 => simp; omega
          intro v' w' hown hgrow _
          have R' := (R.alloc (.cells #[.int .u8 (8 * (M : Int) / 2 ^ (56 - 8 * k) % 256)] 5)).grown hgrow (by simp [Value.ownBlock]; omega)
          have L' := (L.alloc L.size (.cells #[.int .u8 (8 * (M : Int) / 2 ^ (56 - 8 * k) % 256)] 5)).grown hgrow (by simp; have := L.size; omega) (fun i hi => by simp [Value.ownBlock] at hi; omega)
          have hz' : e0 ≤ w'.heap.size := by have := hgrow.size; simp at this; omega
          have HOW : Keep (w'.ownsRow e0 5 1 v' (M + (z + 1) + (k + 1)) ((vals l ++ pzl) ++ ((lenB (8 * M)).map (Value.int .u8)).take (k + 1))) := ⟨by rw [← lenB_snoc M k hk8]; simpa [Nat.add_assoc] using hown⟩
          clear hgrow R L E hown
          go_wp2_with fail
          go_roundw
          case rel => exact ⟨k + 1, by omega, by go_num, L', hz', R', HOW.out⟩
          case measure => simp [intOf]; omega
        · obtain rfl : k = 8 := by omega
          have hx : (vals l ++ pzl) ++ ((lenB (8 * M)).map (Value.int .u8)).take 8 = vals (l ++ pad M) := by
            have e1 : 8 * M % 18446744073709551616 = 8 * M := Nat.mod_eq_of_lt (by omega)
            rw [← HPD.out, List.take_of_length_le (by unfold lenB; simp)]
            unfold pad pz vals
            rw [e1, HZZ.out]
            simp
          have hxl : (l ++ pad M).length = M + (z + 1) + 8 := by
            have := HM.out
            unfold pad lenB
            rw [HZZ.out]
            simp only [List.length_cons, List.length_append, List.length_replicate, List.length_map, List.length_range]
            omega
          rw [hx] at E
          have hxm : (M + (z + 1) + 8) % 64 = 0 := by
            have := pad_length M
            rw [List.length_append, HM.out] at hxl
            omega
          have hxc : ∀ i, i < M + (z + 1) + 8 → wr.cell? ⟨g, i, none⟩ = some (.int .u8 (at_ (l ++ pad M) i)) := fun i hi => by
            have h1 := E.cells (g := g) rfl i (.int .u8 (at_ (l ++ pad M) i)) (by
              unfold at_ vals
              rw [List.getElem?_map, List.getD_eq_getElem?_getD, List.getElem?_eq_getElem (by omega)]
              rfl)
            rw [Addr.add_mid, Nat.zero_add] at h1
            exact h1
          have hcapm : M + (z + 1) + 8 ≤ cap ∧ cap ≤ 9223372036854775807 := by
            rcases E.2 with ⟨h, _⟩ | ⟨_, _, _, h, _, _, h1, h2, _⟩
            · cases h
            · injection h with h3 h4 h5
              unfold maxLen at h2
              omega
          have hzb : z ≤ 63 := by have h1 := HZZ.out; unfold padZ at h1; omega
          have hwf : ∀ i, 0 ≤ at_ (l ++ pad M) i ∧ at_ (l ++ pad M) i ≤ 255 := by
            intro i
            rcases Nat.lt_or_ge i M with h | h
            · have e : at_ (l ++ pad M) i = at_ l i := by
                unfold at_
                rw [List.getD_eq_getElem?_getD, List.getD_eq_getElem?_getD, List.getElem?_append_left (by rw [HM.out]; exact h)]
              rw [e]
              have hX := HX.out
              generalize hv : Value.slice A M c = vv at hX
              cases hX with
              | none A cap => injection hv; omega
              | some g' o' n' cap' _ hl h0 hcap hm hw hc => exact hw i (by have := HM.out; omega)
            · have e : at_ (l ++ pad M) i = at_ (pad M) (i - M) := by
                unfold at_
                rw [List.getD_eq_getElem?_getD, List.getD_eq_getElem?_getD, List.getElem?_append_right (by rw [HM.out]; exact h), HM.out]
              rw [e]
              exact pad_wf M _
          have HXL := hide hxl
          have HXC := hide hxc
          have HCAP := hide hcapm
          have HXM := hide hxm
          have HWF := hide hwf
          have HK := hide hk
          clear hx hxl hxc hcapm hxm E hwf hk hk8 hpz
          generalize hN : M + (z + 1) + 8 = N at *
          have hNb : N ≤ 1152921504606846976 := by omega
          have HN := hide hN
          clear hN
          go_wp2_with (first
            | (refine wpList_build_is rfl 39 _ s8init.row rfl (by kernel_rfl) ?_)
            | (refine wpList_store_row rfl 39 (.tmp 6) (.tmp 39) rfl wr.heap.size s8init.row rfl rfl 39 _ (heap_alloc_new wr _) (by kernel_rfl) (by kernel_rfl) (by kernel_rfl) ?_))
          have F9 : Below wr.heap.size wr ((wr.alloc (.cells #[.int .u32 0, .int .u32 0, .int .u32 0, .int .u32 0, .int .u32 0, .int .u32 0, .int .u32 0, .int .u32 0] 39)).setRow wr.heap.size s8init.row) := below_setRow ((Below.refl _ _).alloc (Nat.le_refl _) _) (Nat.le_refl _) _
          have H9 : Blk ((wr.alloc (.cells #[.int .u32 0, .int .u32 0, .int .u32 0, .int .u32 0, .int .u32 0, .int .u32 0, .int .u32 0, .int .u32 0] 39)).setRow wr.heap.size s8init.row) wr.heap.size 39 s8init.row := Blk.setRow (Blk.new wr _ _) _
          have L9 := below_trans_grows L F9 L.size
          have R9 := R.below F9 R.lt
          have HC9 := hide (fun i hi => (F9.cell (p := ⟨g, i, none⟩) (lt_of_cell (HXC.out i hi))).trans (HXC.out i hi))
          have hrw := R.lt
          clear L R F9 HXC
          generalize (wr.alloc (.cells #[.int .u32 0, .int .u32 0, .int .u32 0, .int .u32 0, .int .u32 0, .int .u32 0, .int .u32 0, .int .u32 0] 39)).setRow wr.heap.size s8init.row = w9 at *
          generalize wr.heap.size = hb at *
          refine (table_any w9).mono ?_
          rintro e w10 ⟨rfl, rfl⟩
          have K10 := Blk.new w9 38 kVals
          have L10 := L9.alloc L9.size (.cells kVals 38)
          have R10 := R9.alloc (.cells kVals 38)
          have H10 := H9.alloc (.cells kVals 38)
          have F10 : Below w9.heap.size w9 (w9.alloc (.cells kVals 38)) := (Below.refl _ _).alloc (Nat.le_refl _) _
          have HC10 := hide (fun i hi => (F10.cell (p := ⟨g, i, none⟩) (lt_of_cell (HC9.out i hi))).trans (HC9.out i hi))
          have hhk := H9.lt
          have hrk := R9.lt
          clear L9 R9 H9 F10 HC9
          generalize w9.alloc (.cells kVals 38) = w10 at *
          generalize w9.heap.size = kg at *
          generalize hf : at_ (l ++ pad M) = f at *
          have HF := hide hf
          clear hf
          go_wp2_with fail
          go_loopw [8] (fun i wr => BlkRel w g hb kg N 48 39 38 f i wr) (fun i _ => N - (intOf i).toNat)
          case atStart => exact ⟨0, by omega, rfl, L10, R10, H10, HC10.out, K10⟩
          case round =>
            clear L10 R10 H10 HC10 K10
            obtain ⟨j, hj, rfl, L, R, H, hc, K⟩ := hrel
            by_cases hjn : 64 * j < N
            · have hj64 : 64 * j + 64 ≤ N := by have := HXM.out; omega
              have hsz : ∀ w, (Go.sizeOf 5).run Try.prog w = .ok 1 w := fun w => by simp [sizeOf, typeInfo, hi0, hi2, go_sem]
              have fsl : ∀ W, (Instr.slice 22 (.slice (some ⟨g, 0, none⟩) N cap) (some (.int .i64 (64 * (j : Int)))) (some (.int .i64 (64 * (j : Int) + 64))) none).run Try.prog W = .ok (.slice (some ⟨g, 64 * j, none⟩) 64 (cap - 64 * j)) W := fun W => by
                have h := Go.Lib.run_slice_window W 22 5 Try.underlying22 hsz g 0 N cap (64 * j) (64 * j + 64) (by omega) (by have := HCAP.out; omega)
                have e1 : 64 * j + 64 - 64 * j = 64 := by omega
                rw [e1, Nat.zero_add] at h
                exact h
              have hcb : ∀ w', Grows wr.drew w' → ∀ i, i < 64 → w'.cell? ⟨g, 64 * j + i, none⟩ = some (.int .u8 (f (64 * j + i))) := fun w' h i hi => by
                have h1 := hc (64 * j + i) (by omega)
                exact (h.cell (p := ⟨g, 64 * j + i, none⟩) (by have := lt_of_cell h1; simpa using this)).trans h1
              have hck : ∀ w', Grows wr.drew w' → ∀ i, i < 64 → w'.cell? ⟨kg, i, none⟩ = some (uv (kW i)) := fun w' h i hi => by
                have hB := K.drew.below h K.lt
                exact (hB.cell i).trans (kVals_at i hi)
              have hwf : ∀ i, i < 64 → 0 ≤ f (64 * j + i) ∧ f (64 * j + i) ≤ 255 := fun i _ => HWF.out _
              have h64 : 64 ≤ cap - 64 * j := by have := HCAP.out; omega
              obtain ⟨s2, hs2⟩ : ∃ s2, s2 = hS f (j + 1) := ⟨_, rfl⟩
              have HBK := hide (fun wv hw => (by rw [hs2, hS_succ]; exact block_any (hS f j) g (64 * j) kg (cap - 64 * j) (fun i => f (64 * j + i)) wv h64 hwf (hcb wv hw) (hck wv hw)) : ∀ wv, Grows wr.drew wv → Calls Try.prog 29 #[.agg (hS f j).row, .slice (some ⟨g, 64 * j, none⟩) 64 (cap - 64 * j), .slice (some ⟨kg, 0, none⟩) 64 64] wv fun e w' => e = .returned (.agg s2.row) ∧ Below wv.heap.size wv w')
              have HS2 := hide hs2
              clear hs2 hwf hck hcb h64
              generalize hS f j = s1 at *
              have hld : ∀ w', Grows wr.drew w' → (Instr.loadAt 39 (.pointer (some ⟨hb, 0, none⟩))).run Try.prog w' = .ok (.agg s1.row) w' := fun w' h => by
                refine run_loadAt_mid w' hb 0 39 s1.row.toList _ (fun i v hv => ?_) Try.underlying39 rfl info8r
                have hB := H.drew.below h H.lt
                rw [hB.cell, ← hv]
                rw [Nat.zero_add, Array.getElem?_toList]
              go_wp2_with fail
              refine wp_region_kinds 8 (by kernel_rfl) (by kernel_rfl) (fun F hF => ?_)
              repeat (first
                | refine kinds_move_is _ rfl (Or.inl rfl) rfl ?_
                | refine kinds_move_is _ rfl (Or.inr rfl) rfl ?_
                | refine kinds_load _ _ rfl rfl rfl hld ?_
                | refine kinds_off rfl rfl rfl rfl ?_
                | refine kinds_off' rfl rfl rfl ?_
                | ((first | refine kinds_on rfl rfl rfl ?_ | skip)
                   apply kinds_is rfl
                   · intro ρ wv K hw hf hK
                     first | obtain ⟨e0, e1, e2, e3, e4, e5, e6, -⟩ := hf | obtain ⟨e0, e1, e2, e3, e4, e5, -⟩ := hf | obtain ⟨e0, e1, e2, e3, e4, -⟩ := hf | obtain ⟨e0, e1, e2, e3, -⟩ := hf | obtain ⟨e0, e1, e2, -⟩ := hf | obtain ⟨e0, e1, -⟩ := hf | obtain ⟨e0, -⟩ := hf | clear hf
                     (try change ρ _ = _ at e0)
                     (try change ρ _ = _ at e1)
                     (try change ρ _ = _ at e2)
                     (try change ρ _ = _ at e3)
                     unfold gives
                     go_simp
                     first
                       | (change Calls _ _ _ _ _; (go_at_call 29; (with_reducible refine (HBK.out _ hw).mono ?_); rintro e w' ⟨rfl, hb⟩; exact ⟨_, rfl, hK _ hb⟩))
                       | ((try go_ints); (try rw [if_pos (by omega)]); exact hK _ (Grows.refl _))))
              refine kinds_nil (hF _ rfl rfl (fun ww hg => ?_))
              clear hF F
              simp only [pushSlot, finish, Act.put, List.setIfInBounds_toArray, List.set_cons_succ, List.set_cons_zero]
              simp only [List.drop_succ_cons, List.drop_zero]
              have L1 := below_trans_grows L.drew hg L.size
              have R1 := R.drew.below hg R.lt
              have H1 := H.drew.below hg H.lt
              have K1 := K.drew.below hg K.lt
              have HC1 := hide (fun i hi => (hg.cell (p := ⟨g, i, none⟩) (by have := lt_of_cell (hc i hi); simpa using this)).trans (hc i hi) : ∀ i, i < N → ww.cell? ⟨g, i, none⟩ = some (.int .u8 (f i)))
              have hgh : g ≠ hb := by
                intro e
                have h1 := HC1.out 0 (by omega)
                have h2 := (H1.cell 0)
                rw [e, h2] at h1
                simp [S8.row, uv] at h1
              clear L R H K hc hld fsl hsz hg HBK
              go_wp2_with (refine wpList_store_row rfl 39 (.tmp 6) (.tmp 54) rfl hb s2.row rfl rfl 39 _ H1 info8r rfl (row_one _) ?_)
              go_roundw
              case rel =>
                refine ⟨j + 1, by omega, by go_num, below_setRow L1 (by omega) _, R1.setRow_far (by omega) _, by rw [← HS2.out]; exact Blk.setRow H1 _, fun i hi => ?_, K1.setRow_far (by omega) _⟩
                rw [← HC1.out i hi]
                exact setRow_cell_far i hgh
              case measure => simp [intOf]; omega
            · obtain rfl : N = 64 * j := by omega
              go_wp2_with fail
              have O1 := Blk.new wr 48 noughts
              have L1 := L.alloc L.size (.cells noughts 48)
              have R1 := R.alloc (.cells noughts 48)
              have H1 := H.alloc (.cells noughts 48)
              have hol := L.size
              have hho := H.lt
              have hro := R.lt
              have HFIN : Keep (outRow (hS f j) 32 = shaRow l) := ⟨by
                refine outRow_full l _ ?_
                rw [HM.out, HXL.out, HF.out]
                congr 1
                omega⟩
              change Code.wp _ _ _ _ (wr.alloc (.cells noughts 48))
              clear L R H K hc
              generalize wr.alloc (.cells noughts 48) = w20 at *
              generalize wr.heap.size = ob at *
              generalize hS f j = s1 at *
              go_loopw [10] (fun i wr => OutRel2 w hb ob 48 39 s1 i wr) (fun i _ => 32 - (intOf i).toNat)
              case atStart => exact ⟨0, by omega, rfl, L1, R1, H1, O1⟩
              case round =>
                clear L1 R1 H1 O1
                obtain ⟨k, hk, rfl, L, R, H, O⟩ := hrel
                by_cases hk32 : k < 32
                · have hcw := (H.cell (k / 4)).trans (rowOf_at s1.get (k / 4) (by omega))
                  have hcr := (O.cell k).trans (outRow_get s1 k hk32)
                  have hzr := O.frozen k
                  have hsh0 : (0 : Int) ≤ 24 - 8 * ((k : Int) % 4) := by omega
                  have hsh1 : 24 - 8 * ((k : Int) % 4) ≤ 24 := by omega
                  have hu0 := un_lo (s1.get (k / 4))
                  have hu1 := un_hi (s1.get (k / 4))
                  unfold uv at hcw
                  have hob := outB_un2 s1 k
                  generalize un (s1.get (k / 4)) = u at *
                  have HOB := hide hob
                  clear hob
                  go_wp2_with fail
                  go_roundw
                  case rel =>
                    refine ⟨k + 1, by omega, by go_num, ?_, ?_, ?_, ?_⟩
                    · exact L.setCell (by simp; omega) _
                    · exact R.far (p := ⟨ob, k, none⟩) (by simp; omega) _
                    · exact H.far (p := ⟨ob, k, none⟩) (by simp; omega) _
                    · have H := O.set_ k (.int .u8 (u / 2 ^ (24 - 8 * (k % 4)) % 256))
                      rw [outRow_set _ _ _ HOB.out] at H
                      exact H
                  case measure => simp [intOf]; omega
                · obtain rfl : k = 32 := by omega
                  rw [HFIN.out] at O
                  have h32 : (Try.prog.info? 48).map (·.size) = some (shaRow l).size := by rw [← shaRow_size]; exact info32
                  go_wp2_with (first
                    | (refine wpList_load_row rfl 48 _ rfl ob rfl 48 (shaRow l) (0, 0) _ O Try.underlying48 rfl h32 ?_)
                    | (refine wpList_store_row rfl 48 (.tmp 2) (.tmp 71) rfl w.heap.size (shaRow l) rfl rfl 48 _ R h32 (shaRow_size l) (sha_oneCell l) ?_))
                  refine bodyPost_ret (results_cell_row rfl _ _ w.heap.size 48 (shaRow l) (0, 0) _ rfl (R.setRow _) Try.underlying48 rfl h32) rfl ⟨rfl, ?_⟩
                  exact below_setRow L (Nat.le_refl _) _
end Go.Proofs.Ytajbbajdglnecaa
