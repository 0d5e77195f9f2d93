/- Bytes, twice over. -/
import Derived.Test.YtajbbajdglnecaaShaRef
namespace Go.Proofs.Ytajbbajdglnecaa
open Go Go.RowKit

theorem run_slice_high {P : Program} (t e : TypeId) (i : TypeInfo) (g m mc k : Nat) (kd : IntKind) (ht : P.underlying t = some (.slice e)) (hi : P.info? e = some i) (hk : k ≤ mc) (w : World) :
    (Instr.slice t (.slice (some ⟨g, 0, none⟩) m mc) none (some (.int kd (k : Int))) none).run P w = .ok (.slice (some ⟨g, 0, none⟩) k mc) w := by
  have h1 : (0 : Int) ≤ k ∧ (k : Int) ≤ (mc : Int) := by omega
  simp [Instr.slice, run_underlying ht, Instr.sliceBounds, Instr.sliceBound, asIntOf, sizeOf, typeInfo, hi, h1, go_sem]
  intro h
  omega
theorem BytesAt.of_ints {W : World} {A : Option Addr} {n c : Nat} {l : List Int} (h : IntsIn W .u8 A n c l) : BytesAt W (.slice A n c) l := by
  rcases Nat.eq_zero_or_pos n with h0 | h0
  · obtain rfl : l = [] := List.length_eq_zero_iff.1 (by rw [h.len, h0])
    subst h0
    exact .none A c
  · obtain ⟨⟨g, o, s⟩, rfl, hg, hc⟩ := h.cell 0 h0
    obtain rfl : s = Option.none := by
      cases s with
      | none => rfl
      | some x => simp [World.cell?, Addr.add] at hc; split at hc <;> simp at hc
    refine .some g o n c l h.len h0 h.cap (by have := h.top; unfold maxLen at this; omega) (fun i hi => h.u8 hi) (fun i hi => ?_)
    obtain ⟨a, ha, _, hca⟩ := h.cell i hi
    injection ha with ha
    rw [← ha, Addr.add_mid] at hca
    exact hca
theorem bytes_cells {w : World} {A : Option Addr} {n c : Nat} {l : List Int} (h : BytesAt w (.slice A n c) l) (h0 : 0 < n) : ∃ g o, A = some ⟨g, o, none⟩ ∧ n ≤ c ∧ ∀ i, i < n → 0 ≤ at_ l i ∧ at_ l i ≤ 255 ∧ w.cell? ⟨g, o + i, none⟩ = some (.int .u8 (at_ l i)) := by
  cases h with
  | none A cap => omega
  | some g o n cap l hl h0 hcap hm hw hc => exact ⟨g, o, rfl, hcap, fun i hi => ⟨(hw i hi).1, (hw i hi).2, hc i hi⟩⟩
theorem vals_take (l : List Int) (k : Nat) (hk : k < l.length) : vals (l.take k) ++ [.int .u8 (at_ l k)] = vals (l.take (k + 1)) := by
  unfold vals at_
  rw [List.take_succ_eq_append_getElem hk, List.map_append, List.getD_eq_getElem?_getD, List.getElem?_eq_getElem hk]
  rfl
def TwinEnds (w : World) (t5 : TypeId) (l : List Int) (e : Ending) (w' : World) : Prop :=
  ∃ g cap, e = .returned (.slice (some ⟨g, 0, none⟩) l.length cap) ∧ w.heap.size ≤ g ∧ Below w.heap.size w w' ∧ l.length + 1 ≤ cap ∧ cap ≤ 9223372036854775807 ∧
    (∀ i, i < l.length → w'.cell? ⟨g, i, none⟩ = some (.int .u8 (at_ l i))) ∧ w'.cell? ⟨g, l.length, none⟩ = some (.int .u8 77) ∧ ∃ cs, Blk w' g t5 cs
def TwinRel (w : World) (M : Nat) (t5 : TypeId) (l : List Int) (v i : Value) (wr : World) : Prop :=
  ∃ k, k ≤ M ∧ i = .int .i64 (k : Nat) ∧ Below w.heap.size w wr ∧ wr.ownsRow w.heap.size t5 1 v k (vals (l.take k))
set_option maxRecDepth 100000 in
set_option maxHeartbeats 2000000 in
theorem twin_any (v : Value) (l : List Int) (w : World) (hx : BytesAt w v l) (hbig : l.length ≤ 1099511627776) :
    Calls Try.prog 19 #[v] w (TwinEnds w 5 l) := by
  obtain ⟨A, c, rfl⟩ := hx.len
  have HX := hide hx
  clear hx
  generalize hM : l.length = M at *
  have HM := hide hM
  clear hM
  obtain ⟨i0, hi0, hi1, hi2, hi3⟩ := info_parts info_u8w
  have hmk : ∀ W, (Instr.makeSlice 22 (.int .i64 0) (.int .i64 ((M : Int) + 1))).run Try.prog W = .ok (.slice (some ⟨W.heap.size, 0, none⟩) 0 (M + 1)) (W.alloc (.cells (madeCells (Value.int .u8 0).cells ((M + 1) * i0.size)) 5)) := fun W =>
    run_make_rowN 22 5 i0 (.int .u8 0) Try.underlying22 hi0 hi1 .i64 .i64 0 (M + 1) (by omega) (by rw [hi3]; omega) (by omega) W
  have hsz : (madeCells (Value.int .u8 0).cells ((M + 1) * i0.size)).size = M + 1 := by rw [hi2]; simp [madeCells, Value.cells]
  generalize madeCells (Value.int .u8 0).cells ((M + 1) * i0.size) = cs at *
  have HSZ := hide hsz
  clear hsz
  go_enter Try.func19, Try.ntmps19
  go_wp2_with fail
  have L1 : Below w.heap.size w (w.alloc (.cells cs 5)) := (Below.refl _ _).alloc (Nat.le_refl _) _
  have E1 : (w.alloc (.cells cs 5)).ownsRow w.heap.size 5 1 (.slice (some ⟨w.heap.size, 0, none⟩) 0 (M + 1)) 0 (vals (l.take 0)) := ⟨rfl, .inr ⟨w.heap.size, M + 1, cs, rfl, Nat.le_refl _, heap_alloc_new w _, by omega, by unfold maxLen; omega, by rw [HSZ.out]; omega, by simp [vals]⟩⟩
  change Code.wp _ _ _ _ (w.alloc (.cells cs 5))
  clear hmk
  generalize w.alloc (.cells cs 5) = w1 at *
  go_loopw [3, 4] (fun v i wr => TwinRel w M 5 l v i wr) (fun _ i _ => M - (intOf i).toNat)
  case atStart => exact ⟨0, by omega, rfl, L1, E1⟩
  case round =>
    clear L1 E1
    obtain ⟨k, hk, rfl, L, E⟩ := hrel
    have hLs := L.size
    have hv2 : ∀ i v, wr.ownsRow w.heap.size 5 1 v k (vals (l.take k)) → v.ownBlock = some i → w.heap.size ≤ i := by
      intro i v E hi
      rcases E.2 with ⟨rfl, _⟩ | ⟨g, cap, cur, rfl, hb, _⟩
      · simp [Value.ownBlock] at hi
      · simp [Value.ownBlock] at hi; omega
    have HV2 := hide (fun i => hv2 i _ E)
    clear hv2
    by_cases hkm : k < M
    · obtain ⟨g, o, rfl, hgc, hcs⟩ := bytes_cells (HX.out.grow L) (by omega)
      obtain ⟨hl0, hl1, hld⟩ := hcs k hkm
      have hvt := vals_take l k (by rw [HM.out]; exact hkm)
      have HVT := hide hvt
      have HL := hide hld
      clear hvt hcs
      generalize at_ l k = u at *
      go_wp2_with (at_builtin; refine wpList_append_own _ rfl _ _ 22 rfl w.heap.size 5 i0 (.int .u8 0) 1 1 Try.underlying22 hi0 hi1 hi2 hi3 rfl (by decide) _ _ _ rfl (E.alloc _) ⟨wr.heap.size, 0, none⟩ 1 1 [.int .u8 u] rfl rfl ?c1 ?c2 ?c3 ?c4 ?c5 ?_)
      case c1 => exact World.news_of_block (cs := #[.int .u8 u]) (t := 5) (fr := (0, 0)) (heap_alloc_new wr _)
      case c2 => simp [Value.oneCell']
      case c3 => unfold maxLen; omega
      case c4 => omega
      case c5 => simp; omega
      intro v' w' hown hgrow _
      have L' := (L.alloc L.size (.cells #[.int .u8 u] 5)).grown hgrow (by simp; have := L.size; omega) (fun i hi => HV2.out i hi)
      rw [HVT.out] at hown
      clear hgrow L E hld
      go_wp2_with fail
      go_roundw
      case rel => exact ⟨k + 1, by omega, by go_num, L', hown⟩
      case measure => simp [intOf]; omega
    · obtain rfl : k = M := by omega
      go_wp2_with (at_builtin; refine wpList_append_own _ rfl _ _ 22 rfl w.heap.size 5 i0 (.int .u8 0) 1 1 Try.underlying22 hi0 hi1 hi2 hi3 rfl (by decide) _ _ _ rfl (E.alloc _) ⟨wr.heap.size, 0, none⟩ 1 1 [.int .u8 77] rfl rfl ?d1 ?d2 ?d3 ?d4 ?d5 ?_)
      case d1 => exact World.news_of_block (cs := #[.int .u8 77]) (t := 5) (fr := (0, 0)) (heap_alloc_new wr _)
      case d2 => simp [Value.oneCell']
      case d3 => unfold maxLen; omega
      case d4 => omega
      case d5 => simp; omega
      intro v' w' hown hgrow _
      have L' := (L.alloc L.size (.cells #[.int .u8 77] 5)).grown hgrow (by simp; have := L.size; omega) (fun i hi => HV2.out i hi)
      obtain ⟨g, cap, rfl, hg0, hg1⟩ := hown.form (by omega)
      have hcapm : k + 1 ≤ cap ∧ cap ≤ 9223372036854775807 := by
        rcases hown.2 with ⟨h, _⟩ | ⟨_, _, _, h, _, _, h1, h2, _⟩
        · cases h
        · injection h with h3 h4 h5
          unfold maxLen at h2
          omega
      have hsl : ∀ W, (Instr.slice 22 (.slice (some ⟨g, 0, none⟩) (k + 1) cap) none (some (.int .i64 (k : Int))) none).run Try.prog W = .ok (.slice (some ⟨g, 0, none⟩) k cap) W := fun W =>
        run_slice_high 22 5 i0 g (k + 1) cap k .i64 Try.underlying22 hi0 (by omega) W
      have HOW := hide hown
      clear hown hgrow L E
      go_wp2_with fail
      go_ret
      have hcell := HOW.out.cells (g := g) rfl
      have hml := HM.out
      have hvl : (vals (l.take k)).length = k := by unfold vals; simp; omega
      refine ⟨g, cap, by rw [hml]; rfl, hg0, L', by omega, hcapm.2, fun i hi => ?_, ?_, ?_⟩
      · have h := hcell i (.int .u8 (at_ l i)) (by
          rw [List.getElem?_append_left (by omega)]
          unfold vals at_
          rw [List.getElem?_map, List.getElem?_take_of_lt (by omega), List.getD_eq_getElem?_getD, List.getElem?_eq_getElem hi]
          rfl)
        rw [Addr.add_mid, Nat.zero_add] at h
        exact h
      · have h := hcell k (.int .u8 77) (by
          rw [List.getElem?_append_right (by omega), hvl, Nat.sub_self]
          rfl)
        rw [Addr.add_mid, Nat.zero_add] at h
        rw [hml]
        exact h
      · rcases HOW.out.2 with ⟨h, _⟩ | ⟨_, _, cur, h, _, hh, _⟩
        · cases h
        · injection h with h3 h4 h5
          injection h3 with h3
          injection h3 with h3
          subst h3
          exact ⟨cur, hh⟩
end Go.Proofs.Ytajbbajdglnecaa
