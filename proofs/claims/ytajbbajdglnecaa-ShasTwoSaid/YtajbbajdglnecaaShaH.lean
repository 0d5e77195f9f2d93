/- A sum is begun; its hash is told. -/
import Derived.Test.YtajbbajdglnecaaShaW
import Derived.Test.YtajbbajdglnecaaShaNone
namespace Go.Proofs.Ytajbbajdglnecaa
open Go Go.RowKit

theorem begin_any (w : World) : Calls Try.prog 31 #[] w fun e w' => e = .returned (.agg s8init.row) ∧ Below w.heap.size w w' := by
  go_enter Try.func31, Try.ntmps31
  go_wp2
  refine bodyPost_ret (results_cell_row rfl _ _ w.heap.size 40 s8init.row (0, 0) _ rfl (Blk.new w _ _) Try.underlying40 rfl info8s) rfl ⟨rfl, ?_⟩
  exact (Below.refl _ _).alloc (Nat.le_refl _) _
def sum0 : SumSt := ⟨s8init, List.replicate 64 0, 0⟩
theorem at_replicate (n j : Nat) : at_ (List.replicate n 0) j = 0 := by
  unfold at_
  rw [List.getD_eq_getElem?_getD, List.getElem?_replicate]
  split <;> rfl
theorem sum0_of : SumOf [] sum0 := ⟨rfl, rfl, rfl, fun j hj => by simp at hj, fun j => by
  show 0 ≤ at_ (List.replicate 64 0) j ∧ at_ (List.replicate 64 0) j ≤ 255
  rw [at_replicate]
  omega⟩
def SumNew (w : World) (t : TypeId) (e : Ending) (w' : World) : Prop := ∃ b, e = .returned (.pointer (some ⟨b, 0, none⟩)) ∧ w.heap.size ≤ b ∧ Below w.heap.size w w' ∧ Blk w' b t (sumRow sum0).toArray
set_option maxRecDepth 100000 in
theorem new_any (w : World) : Calls Try.prog 25 #[] w (SumNew w 44) := by
  go_enter Try.func25, Try.ntmps25
  go_wp2_with fail
  refine (begin_any w).mono ?_
  rintro e w1 ⟨rfl, hb⟩
  go_wp2_with (refine wpList_build_is rfl 44 _ (sumRow sum0).toArray rfl (by kernel_rfl) ?_)
  go_ret
  exact ⟨w1.heap.size, rfl, hb.size, hb.alloc hb.size _, Blk.new _ _ _⟩

def endRow : Array Value := #[.int .u8 128, .int .u8 0, .int .u8 0, .int .u8 0, .int .u8 0, .int .u8 0, .int .u8 0, .int .u8 0, .int .u8 0, .int .u8 0, .int .u8 0, .int .u8 0, .int .u8 0, .int .u8 0, .int .u8 0, .int .u8 0, .int .u8 0, .int .u8 0, .int .u8 0, .int .u8 0, .int .u8 0, .int .u8 0, .int .u8 0, .int .u8 0, .int .u8 0, .int .u8 0, .int .u8 0, .int .u8 0, .int .u8 0, .int .u8 0, .int .u8 0, .int .u8 0, .int .u8 0, .int .u8 0, .int .u8 0, .int .u8 0, .int .u8 0, .int .u8 0, .int .u8 0, .int .u8 0, .int .u8 0, .int .u8 0, .int .u8 0, .int .u8 0, .int .u8 0, .int .u8 0, .int .u8 0, .int .u8 0, .int .u8 0, .int .u8 0, .int .u8 0, .int .u8 0, .int .u8 0, .int .u8 0, .int .u8 0, .int .u8 0, .int .u8 0, .int .u8 0, .int .u8 0, .int .u8 0, .int .u8 0, .int .u8 0, .int .u8 0, .int .u8 0]
/-- A bit, and k noughts. -/
def pz (k : Nat) : List Value := .int .u8 128 :: List.replicate k (.int .u8 0)
def PadRel (w : World) (b q e0 M : Nat) (t5 t48 t44 : TypeId) (cs : Array Value) (v : Value) (wr : World) : Prop :=
  ∃ k, k ≤ padZ M ∧ Below w.heap.size w wr ∧ e0 ≤ wr.heap.size ∧ Blk wr w.heap.size t48 noughts ∧ Blk wr b t44 cs ∧ Blk wr q t44 cs ∧ wr.ownsRow e0 t5 1 v (k + 1) (pz k)
def LenRel (w : World) (b q e0 z M : Nat) (t5 t48 t44 : TypeId) (cs : Array Value) (pl : List Value) (v i : Value) (wr : World) : Prop :=
  ∃ k, k ≤ 8 ∧ i = .int .i64 (k : Nat) ∧ Below w.heap.size w wr ∧ e0 ≤ wr.heap.size ∧ Blk wr w.heap.size t48 noughts ∧ Blk wr b t44 cs ∧ Blk wr q t44 cs ∧ wr.ownsRow e0 t5 1 v (z + 1 + k) (pl ++ ((lenB (8 * M)).map (Value.int .u8)).take k)
theorem pad_wf (n i : Nat) : 0 ≤ at_ (pad n) i ∧ at_ (pad n) i ≤ 255 := by
  have key : ∀ v ∈ pad n, 0 ≤ v ∧ v ≤ 255 := by
    intro v hv
    unfold pad lenB at hv
    simp only [List.mem_cons, List.mem_append, List.mem_replicate, List.mem_map, List.mem_range] at hv
    rcases hv with rfl | ⟨_, rfl⟩ | ⟨i, _, rfl⟩
    · omega
    · omega
    · omega
  unfold at_
  rw [List.getD_eq_getElem?_getD]
  cases h : (pad n)[i]? with
  | none => simp
  | some v => exact key v (List.mem_of_getElem? h)
theorem sumRow_get (s : SumSt) (j : Nat) (hj : j < 8) : (sumRow s).toArray[1 + j]? = some (uv (s.st.get j)) := by
  have : j = 0 ∨ j = 1 ∨ j = 2 ∨ j = 3 ∨ j = 4 ∨ j = 5 ∨ j = 6 ∨ j = 7 := by omega
  rcases this with rfl | rfl | rfl | rfl | rfl | rfl | rfl | rfl <;> rfl
/-- k bytes of the hash. -/
def outRow (s : S8) (k : Nat) : Array Value := ((List.range 32).map fun i => Value.int .u8 (if i < k then outB s i else 0)).toArray
theorem outRow_get (s : S8) (k : Nat) (hk : k < 32) : (outRow s k)[k]? = some (.int .u8 0) := by
  unfold outRow
  rw [List.getElem?_toArray, List.getElem?_map, List.getElem?_range hk, Option.map_some, if_neg (Nat.lt_irrefl k)]
theorem outRow_set (s : S8) (k : Nat) (v : Int) (hv : v = outB s k) : (outRow s k).setIfInBounds k (.int .u8 v) = outRow s (k + 1) := by
  unfold outRow
  rw [List.setIfInBounds_toArray]
  congr 1
  apply List.ext_getElem?
  intro i
  rw [List.getElem?_set]
  simp only [List.length_map, List.length_range, List.getElem?_map]
  by_cases hi : i < 32
  · rw [List.getElem?_range hi]
    by_cases he : k = i
    · subst he; simp [hi, hv]
    · simp only [he, if_false, Option.map_some]
      congr 2
      by_cases h1 : i < k
      · rw [if_pos h1, if_pos (by omega)]
      · rw [if_neg h1, if_neg (by omega)]
  · rw [List.getElem?_eq_none (l := List.range 32) (i := i) (by simp; omega)]
    by_cases he : k = i
    · subst he; simp [hi]
    · simp [he]
theorem outRow_zero (s : S8) : outRow s 0 = noughts := rfl
theorem outB_un (s : S8) (k : Nat) : un (s.get (k / 4)) / 2 ^ (24 - k % 4 * 8) % 256 = outB s k := by
  unfold outB un
  rw [Nat.mul_comm, Int.natCast_emod, Int.natCast_ediv, Int.natCast_pow]
  rfl
theorem outRow_full (l : List Int) (s : S8) (h : s = hS (at_ (l ++ pad l.length)) ((l ++ pad l.length).length / 64)) : outRow s 32 = shaRow l := by
  subst h
  rfl
theorem sha_oneCell (l : List Int) : (shaRow l).all (·.oneCell') = true := by
  rw [Array.all_eq_true_iff_forall_mem]
  intro v hv
  unfold shaRow at hv
  rw [List.mem_toArray, List.mem_map] at hv
  obtain ⟨x, _, rfl⟩ := hv
  rfl
theorem shaRow_size (l : List Int) : 32 = (shaRow l).size := by
  unfold shaRow
  rw [List.size_toArray, List.length_map, List.length_range]
def OutRel (w : World) (q : Nat) (t48 t44 : TypeId) (cs : Array Value) (s : S8) (i : Value) (wr : World) : Prop :=
  ∃ k, k ≤ 32 ∧ i = .int .i64 (k : Nat) ∧ Below w.heap.size w wr ∧ Blk wr w.heap.size t48 (outRow s k) ∧ Blk wr q t44 cs
theorem grown_below {B b : Nat} {a w w' : World} (h : Below B a w) (hg : w.grownBy w' (some b)) (hB : B ≤ w.heap.size) (hb : B ≤ b) : Below B a w' :=
  h.grown hg hB (fun k hk => by injection hk with hk; omega)
theorem lenB_snoc (M k : Nat) (hk : k < 8) : ((lenB (8 * M)).map (Value.int .u8)).take k ++ [.int .u8 (8 * (M : Int) / 2 ^ (56 - 8 * k) % 256)] = ((lenB (8 * M)).map (Value.int .u8)).take (k + 1) := by
  have hl : k < ((lenB (8 * M)).map (Value.int .u8)).length := by unfold lenB; simp; omega
  rw [List.take_succ_eq_append_getElem hl]
  congr 1
  congr 1
  unfold lenB
  simp
theorem zero44 (w : World) : (zeroValue 44).run Try.prog w = .ok (.agg sumZero) w := by kernel_rfl
theorem info74 : (Try.prog.info? 44).map (·.size) = some 74 := by kernel_rfl
theorem sum_oneCell (s : SumSt) : (sumRow s).toArray.all (·.oneCell') = true := by
  rw [Array.all_eq_true_iff_forall_mem]
  intro v hv
  have hv : v ∈ sumRow s := by simpa using hv
  unfold sumRow at hv
  simp only [List.mem_cons, List.mem_append, List.mem_map, List.not_mem_nil, or_false] at hv
  rcases hv with rfl | rfl | rfl | rfl | rfl | rfl | rfl | rfl | rfl | ⟨x, _, rfl⟩ | rfl <;> rfl

set_option maxRecDepth 100000 in
set_option maxHeartbeats 4000000 in
theorem hash_any (b : Nat) (l : List Int) (s : SumSt) (w : World) (hs : SumOf l s) (hB : Blk w b 44 (sumRow s).toArray) (hbig : l.length ≤ 576460752303423488) :
    Calls Try.prog 18 #[.pointer (some ⟨b, 0, none⟩)] w (HashEnds w (shaRow l)) := by
  have HS := hide hs
  have hbl := hB.lt
  have hbig' : s.many ≤ 576460752303423488 := by rw [hs.many]; exact hbig
  have hlen := hs.len
  have hsz := sumRow_length s hlen
  have HLEN := hide hlen
  have HSZ := hide hsz
  clear hs hlen hsz
  go_enter Try.func18, Try.ntmps18
  go_upto_region 1 with fail
  have R0 := Blk.new w 48 noughts
  have L0 : Below w.heap.size w (w.alloc (.cells noughts 48)) := (Below.refl _ _).alloc (Nat.le_refl _) _
  have B0 := hB.alloc (.cells noughts 48)
  have hz0 : (w.alloc (.cells noughts 48)).heap.size = w.heap.size + 1 := World.size_alloc _ _
  change Code.wp _ _ _ _ (w.alloc (.cells noughts 48))
  generalize w.alloc (.cells noughts 48) = w1 at *
  have c0 : w1.cell? ⟨b, 0, none⟩ = some (.int .i64 1) := B0.cell 0
  have c73 := (B0.cell 73).trans (sumRow_many s HLEN.out)
  have i74 : (Try.prog.info? 44).map (·.size) = some (sumRow s).toArray.size := by rw [List.size_toArray, HSZ.out]; exact info74
  have HI := hide i74
  have HSZ2 : Keep (74 = (sumRow s).toArray.size) := ⟨by rw [List.size_toArray, HSZ.out]⟩
  have HZ0 := hide hz0
  clear hB i74 hz0
  have hz44 := zero44
  go_upto_region 4 with (first
    | (refine wpList_load_row rfl 44 _ rfl b rfl 44 (sumRow s).toArray (0, 0) _ B0 Try.underlying44 rfl HI.out ?_)
    | (refine wpList_store_row rfl 44 (.tmp 3) (.tmp 20) rfl w1.heap.size (sumRow s).toArray rfl rfl 44 _ (heap_alloc_new w1 _) HI.out (HSZ2.out) (sum_oneCell s) ?_))
  have hne1 : w.heap.size ≠ w1.heap.size := by have := HZ0.out; omega
  have hne2 : b ≠ w1.heap.size := by have := B0.lt; omega
  have hne3 : b ≠ w.heap.size := by omega
  have R2 : Blk ((w1.alloc (.cells sumZero 44)).setRow w1.heap.size (sumRow s).toArray) w.heap.size 48 noughts := (R0.alloc _).setRow_far hne1 _
  have B2 : Blk ((w1.alloc (.cells sumZero 44)).setRow w1.heap.size (sumRow s).toArray) b 44 (sumRow s).toArray := (B0.alloc _).setRow_far hne2 _
  have C2 : Blk ((w1.alloc (.cells sumZero 44)).setRow w1.heap.size (sumRow s).toArray) w1.heap.size 44 (sumRow s).toArray := Blk.setRow (Blk.new w1 _ _) _
  have L2 : Below w.heap.size w ((w1.alloc (.cells sumZero 44)).setRow w1.heap.size (sumRow s).toArray) := below_setRow (L0.alloc L0.size _) L0.size _
  have hp := L0.size
  clear R0 L0 B0 c0 c73 HI HSZ2 HZ0 hz44 HSZ
  generalize (w1.alloc (.cells sumZero 44)).setRow w1.heap.size (sumRow s).toArray = w2 at *
  generalize w1.heap.size = q at *
  have c73 := (B2.cell 73).trans (sumRow_many s HLEN.out)
  obtain ⟨i0, hi0, hi1, hi2, hi3⟩ := info_parts info_u8w
  have hmk : ∀ W, (Instr.makeSlice 22 (.int .i64 1) (.int .i64 64)).run Try.prog W = .ok (.slice (some ⟨W.heap.size, 0, none⟩) 1 64) (W.alloc (.cells (madeCells (Value.int .u8 0).cells (64 * i0.size)) 5)) := fun W =>
    run_make_rowN 22 5 i0 (.int .u8 0) Try.underlying22 hi0 hi1 .i64 .i64 1 64 (by omega) (by rw [hi3]; omega) (by omega) W
  have hmade : madeCells (Value.int .u8 0).cells (64 * i0.size) = (List.replicate 64 (Value.int .u8 0)).toArray := by rw [hi2]; kernel_rfl
  rw [hmade] at hmk
  clear hmade
  go_wp2_with fail
  have R3 := R2.alloc (.cells endRow 5)
  have B3 := B2.alloc (.cells endRow 5)
  have C3 := C2.alloc (.cells endRow 5)
  have L3 := L2.alloc L2.size (.cells endRow 5)
  have E3 : (w2.alloc (.cells endRow 5)).ownsRow w2.heap.size 5 1 (.slice (some ⟨w2.heap.size, 0, none⟩) 1 64) 1 (pz 0) := ⟨rfl, .inr ⟨w2.heap.size, 64, endRow, rfl, Nat.le_refl _, heap_alloc_new w2 _, by omega, by unfold maxLen; omega, rfl, rfl⟩⟩
  have hz3 : w2.heap.size < (w2.alloc (.cells endRow 5)).heap.size := by rw [World.size_alloc]; omega
  have hr2 := R2.lt
  have hb2 := B2.lt
  have hc2 := C2.lt
  change Code.wp _ _ _ _ (w2.alloc (.cells endRow 5))
  clear R2 B2 C2 L2 c73 hmk
  generalize w2.alloc (.cells endRow 5) = w3 at *
  generalize w2.heap.size = e0 at *
  have hz3' : e0 ≤ w3.heap.size := by omega
  clear hz3
  have hsm := HS.out.many
  have HM := hide hsm
  clear hsm
  generalize hMg : s.many = M at *
  have HMG := hide hMg
  clear hMg
  go_loopw [5] (fun v wr => PadRel w b q e0 M 5 48 44 (sumRow s).toArray v wr) (fun v _ => padZ M + 1 - lenOf v)
  case atStart => exact ⟨0, by omega, L3, hz3', R3, B3, C3, E3⟩
  case round =>
    clear L3 hz3' R3 B3 C3 E3
    obtain ⟨k, hk, L, hz, R, B, C, E⟩ := hrel
    obtain ⟨g, cap, rfl, hg0, hg1⟩ := E.form (by omega)
    have c73 := (B.cell 73).trans (sumRow_many s HLEN.out)
    rw [HMG.out] at c73
    have hpz : padZ M ≤ 63 := by unfold padZ; omega
    by_cases hkl : k < padZ M
    · have hT : (((M : Int) + ((k : Int) + 1)) % 64 != 56) = true := by
        rw [bne_iff_ne]
        unfold padZ at hkl
        omega
      go_wp2_with (at_builtin; refine wpList_append_own _ rfl _ _ 22 rfl e0 5 i0 (.int .u8 0) 1 1 Try.underlying22 hi0 hi1 hi2 hi3 rfl (by decide) _ _ _ rfl (E.alloc _) ⟨wr.heap.size, 0, none⟩ 1 1 [.int .u8 0] rfl rfl ?c1 ?c2 ?c3 ?c4 ?c5 ?_)
      case c1 => exact World.news_of_block (cs := #[.int .u8 0]) (t := 5) (fr := (0, 0)) (heap_alloc_new wr _)
      case c2 => simp [Value.oneCell']
      case c3 => unfold maxLen; omega
      case c4 => omega
      case c5 => simp; omega
      intro v' w' hown hgrow _
      have R' := (R.alloc (.cells #[.int .u8 0] 5)).grown hgrow (by simp [Value.ownBlock]; omega)
      have B' := (B.alloc (.cells #[.int .u8 0] 5)).grown hgrow (by simp [Value.ownBlock]; omega)
      have C' := (C.alloc (.cells #[.int .u8 0] 5)).grown hgrow (by simp [Value.ownBlock]; omega)
      have L' := (L.alloc L.size (.cells #[.int .u8 0] 5)).grown hgrow (by simp; have := L.size; omega) (fun i hi => by simp [Value.ownBlock] at hi; omega)
      have hz' : e0 ≤ w'.heap.size := by have := hgrow.size; simp at this; omega
      have hpe : pz k ++ [.int .u8 0] = pz (k + 1) := by unfold pz; rw [List.replicate_succ']; rfl
      rw [hpe] at hown
      obtain ⟨g', cap', rfl, _, _⟩ := hown.form (by omega)
      clear hgrow hpe R B C L E c73
      go_wp2_with fail
      go_roundw
      case rel => exact ⟨k + 1, by omega, L', hz', R', B', C', hown⟩
      case measure => simp [lenOf]; omega
    · obtain rfl : k = padZ M := by omega
      have hT : (((M : Int) + ((padZ M : Int) + 1)) % 64 != 56) = false := by
        rw [bne_eq_false_iff_eq]
        unfold padZ
        omega
      go_wp2_with fail
      have HE := hide E
      have HR := hide R
      have HB := hide B
      have HC := hide C
      have HL := hide L
      have HZ := hide hz
      clear E R B C L hz c73 hT hk hkl
      generalize hpd : pz (padZ M) = pzl at *
      have HPD := hide hpd
      clear hpd
      generalize hzz : padZ M = z at *
      have HZZ := hide hzz
      clear hzz
      go_loopw [5, 42] (fun v i wr => LenRel w b q e0 z M 5 48 44 (sumRow s).toArray pzl v i wr) (fun _ i _ => 8 - (intOf i).toNat)
      case atStart => exact ⟨0, by omega, rfl, HL.out, HZ.out, HR.out, HB.out, HC.out, by simpa using HE.out⟩
      case round =>
        clear HL HZ HR HB HC HE
        obtain ⟨k, hk, rfl, L, hz, R, B, C, E⟩ := hrel
        obtain ⟨g, cap, rfl, hg0, hg1⟩ := E.form (by omega)
        by_cases hk8 : k < 8
        · go_wp2_with (at_builtin; refine wpList_append_own _ rfl _ _ 22 rfl e0 5 i0 (.int .u8 0) 1 1 Try.underlying22 hi0 hi1 hi2 hi3 rfl (by decide) _ _ _ rfl (E.alloc _) ⟨wr.heap.size, 0, none⟩ 1 1 [.int .u8 (8 * (M : Int) / 2 ^ (56 - 8 * k) % 256)] rfl rfl ?d1 ?d2 ?d3 ?d4 ?d5 ?_)
          case d1 => exact World.news_of_block (cs := #[.int .u8 (8 * (M : Int) / 2 ^ (56 - 8 * k) % 256)]) (t := 5) (fr := (0, 0)) (heap_alloc_new wr _)
          case d2 => simp [Value.oneCell']
          case d3 => unfold maxLen; omega
          case d4 => omega
          case d5 => simp; omega
          intro v' w' hown hgrow _
          have R' := (R.alloc (.cells #[.int .u8 (8 * (M : Int) / 2 ^ (56 - 8 * k) % 256)] 5)).grown hgrow (by simp [Value.ownBlock]; omega)
          have B' := (B.alloc (.cells #[.int .u8 (8 * (M : Int) / 2 ^ (56 - 8 * k) % 256)] 5)).grown hgrow (by simp [Value.ownBlock]; omega)
          have C' := (C.alloc (.cells #[.int .u8 (8 * (M : Int) / 2 ^ (56 - 8 * k) % 256)] 5)).grown hgrow (by simp [Value.ownBlock]; omega)
          have L' := (L.alloc L.size (.cells #[.int .u8 (8 * (M : Int) / 2 ^ (56 - 8 * k) % 256)] 5)).grown hgrow (by simp; have := L.size; omega) (fun i hi => by simp [Value.ownBlock] at hi; omega)
          have hz' : e0 ≤ w'.heap.size := by have := hgrow.size; simp at this; omega
          have HOW : Keep (w'.ownsRow e0 5 1 v' (z + 1 + (k + 1)) (pzl ++ ((lenB (8 * M)).map (Value.int .u8)).take (k + 1))) := ⟨by rw [← lenB_snoc M k hk8]; simpa [Nat.add_assoc] using hown⟩
          clear hgrow R B C L E hown
          go_wp2_with fail
          go_roundw
          case rel => exact ⟨k + 1, by omega, by go_num, L', hz', R', B', C', HOW.out⟩
          case measure => simp [intOf]; omega
        · obtain rfl : k = 8 := by omega
          have hx : pzl ++ ((lenB (8 * M)).map (Value.int .u8)).take 8 = (pad M).map (Value.int .u8) := by
            have e1 : 8 * M % 18446744073709551616 = 8 * M := Nat.mod_eq_of_lt (by omega)
            rw [← HPD.out, List.take_of_length_le (by unfold lenB; simp)]
            unfold pad pz
            rw [e1, HZZ.out]
            simp
          have hxl : (pad M).length = z + 1 + 8 := by
            unfold pad lenB
            rw [HZZ.out]
            simp only [List.length_cons, List.length_append, List.length_replicate, List.length_map, List.length_range]
            first | done | omega
          have hxw : ∀ i, i < z + 1 + 8 → 0 ≤ at_ (pad M) i ∧ at_ (pad M) i ≤ 255 := fun i _ => pad_wf M i
          rw [hx] at E
          have hxc : ∀ i, i < z + 1 + 8 → wr.cell? ⟨g, 0 + i, none⟩ = some (.int .u8 (at_ (pad M) i)) := fun i hi => by
            have h1 := E.cells (g := g) rfl i (.int .u8 (at_ (pad M) i)) (by
              unfold at_
              rw [List.getElem?_map, List.getD_eq_getElem?_getD, List.getElem?_eq_getElem (by omega)]
              rfl)
            rw [← Addr.add_mid]
            exact h1
          have hcapm : z + 1 + 8 ≤ cap ∧ cap ≤ 9223372036854775807 := by
            rcases E.2 with ⟨h, _⟩ | ⟨_, _, _, h, _, _, h1, h2, _⟩
            · cases h
            · injection h with h3 h4 h5
              unfold maxLen at h2
              omega
          have hqg : q ≠ g := by omega
          have HXL := hide hxl
          have HXW := hide hxw
          have HXC := hide hxc
          have HCAP := hide hcapm
          have HQG := hide hqg
          have hlM : l.length = M := by rw [← HS.out.many]; exact HMG.out
          have HLM := hide hlM
          clear hx hxl hxw hxc hcapm hqg E hlM
          go_wp2_with fail
          refine (writes_any q g 0 (z + 1 + 8) cap l (pad M) s wr HS.out C HQG.out HXL.out HCAP.out.1 HCAP.out.2 (by rw [HLM.out]; have h1 := HZZ.out; unfold padZ at h1; omega) HXW.out HXC.out).mono ?_
          rintro e w5 ⟨rfl, hg5, s5, hS5, C5⟩
          have L5 := grown_below L hg5 L.size hp
          have R5 := R.grown hg5 (by simp; omega)
          clear hg5 R B C L
          have hS5s := hS5.st
          rw [HLM.out.symm] at hS5s
          have HS5 := hide hS5s
          clear hS5 hS5s
          go_wp2_with fail
          go_loopw [57] (fun i wr => OutRel w q 48 44 (sumRow s5).toArray s5.st i wr) (fun i _ => 32 - (intOf i).toNat)
          case atStart => exact ⟨0, by omega, rfl, L5, R5, C5⟩
          case round =>
            clear L5 R5 C5
            obtain ⟨k, hk, rfl, L, R, C⟩ := hrel
            by_cases hk32 : k < 32
            · have hcw := (C.cell (1 + k / 4)).trans (sumRow_get s5 (k / 4) (by omega))
              have hcr := (R.cell k).trans (outRow_get s5.st k hk32)
              have hzr := R.frozen k
              have hsh0 : (0 : Int) ≤ 24 - (k : Int) % 4 * 8 := by omega
              have hsh1 : 24 - (k : Int) % 4 * 8 ≤ 24 := by omega
              have hu0 := un_lo (s5.st.get (k / 4))
              have hu1 := un_hi (s5.st.get (k / 4))
              unfold uv at hcw
              have hob := outB_un s5.st k
              generalize un (s5.st.get (k / 4)) = u at *
              have HOB := hide hob
              clear hob
              go_wp2_with fail
              go_roundw
              case rel =>
                refine ⟨k + 1, by omega, by go_num, ?_, ?_, ?_⟩
                · exact L.setCell (Nat.le_refl _) _
                · have H := R.set_ k (.int .u8 (u / 2 ^ (24 - k % 4 * 8) % 256))
                  rw [outRow_set _ _ _ HOB.out] at H
                  exact H
                · exact C.far (p := ⟨w.heap.size, k, none⟩) (fun e => hne1 e.symm) _
              case measure => simp [intOf]; omega
            · obtain rfl : k = 32 := by omega
              have HR := R
              have ho := outRow_full l s5.st HS5.out
              rw [ho] at R
              have h32 : (Try.prog.info? 48).map (·.size) = some (shaRow l).size := by rw [← shaRow_size]; exact info32
              go_wp2_with (first
                | (refine wpList_load_row rfl 48 _ rfl w.heap.size rfl 48 (shaRow l) (0, 0) _ R Try.underlying48 rfl h32 ?_)
                | (refine wpList_store_row rfl 48 (.tmp 2) (.tmp 74) rfl w.heap.size (shaRow l) rfl rfl 48 _ R h32 (shaRow_size l) (sha_oneCell l) ?_))
              refine bodyPost_ret (results_cell_row rfl _ _ w.heap.size 48 (shaRow l) (0, 0) _ rfl (R.setRow _) Try.underlying48 rfl h32) rfl ⟨rfl, ?_⟩
              exact below_setRow L (Nat.le_refl _) _
end Go.Proofs.Ytajbbajdglnecaa
