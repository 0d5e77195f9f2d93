/- ShasOf: walked. -/
import Derived.Test.YtajbbajdglnecaaLeft
namespace Go.Proofs.Ytajbbajdglnecaa
open Go Go.RowKit

theorem shaRow_at (l : List Int) (j : Nat) (h : j < 32) : (shaRow l)[j]? = some (.int .u8 (outB (hS (at_ (l ++ pad l.length)) ((l ++ pad l.length).length / 64)) j)) := by
  unfold shaRow
  rw [List.getElem?_toArray, List.getElem?_map, List.getElem?_range h]
  rfl
theorem sha_eql (l : List Int) (w : World) : (binOp .eql 48 (.agg (shaRow l)) (.agg (shaRow l))).run Try.prog w = .ok (.bool true) w := by
  obtain ⟨i0, hi0, _, hi1, _⟩ := info_parts info_u8
  have h := run_eql_ints 48 5 32 .u8 i0 (shaRow l) (shaRow l) _ _ Try.underlying48 Try.underlying5 hi0 hi1 (shaRow_at l) (shaRow_at l) w
  rw [eqFrom_self] at h
  exact h
theorem sha_neq (l : List Int) (w : World) : (binOp .neq 48 (.agg (shaRow l)) (.agg (shaRow l))).run Try.prog w = .ok (.bool false) w := by
  obtain ⟨i0, hi0, _, hi1, _⟩ := info_parts info_u8
  have h := run_neq_ints 48 5 32 .u8 i0 (shaRow l) (shaRow l) _ _ Try.underlying48 Try.underlying5 hi0 hi1 (shaRow_at l) (shaRow_at l) w
  rw [eqFrom_self] at h
  exact h
set_option maxHeartbeats 1000000 in
theorem shasOf_any (v : Value) (l : List Int) (w : World) (hx : BytesAt w v l) : Calls Try.prog 6 #[v] w (LawEnds w) := by
  obtain ⟨A, c, rfl⟩ := hx.len
  have HX := hide hx
  clear hx
  generalize hM : l.length = M at *
  have HM := hide hM
  clear hM
  by_cases hlong : 50000 < M
  · go_enter Try.func6, Try.ntmps6
    go_wp2_with fail
    go_ret
    exact ⟨rfl, Below.refl _ _⟩
  · go_enter Try.func6, Try.ntmps6
    go_wp2_with fail
    refine (twin_any _ l w HX.out (by rw [HM.out]; omega)).mono ?_
    rintro e w1 ⟨g, cap, rfl, hg, L1, hcap, htop, hcs, h77, -⟩
    have hB1 : BytesAt w1 (.slice (some ⟨g, 0, none⟩) l.length cap) l := by
      rcases Nat.eq_zero_or_pos M with h0 | h0
      · obtain rfl : l = [] := List.length_eq_zero_iff.1 (by rw [HM.out, h0])
        exact .none _ _
      · obtain ⟨_, _, _, _, hcc⟩ := bytes_cells HX.out h0
        exact .some g 0 l.length cap l rfl (by rw [HM.out]; exact h0) (by omega) htop (fun i hi => ⟨(hcc i (by rw [← HM.out]; exact hi)).1, (hcc i (by rw [← HM.out]; exact hi)).2.1⟩) (fun i hi => by rw [Nat.zero_add]; exact hcs i hi)
    have HB1 := hide hB1
    have HCS := hide hcs
    have H77 := hide h77
    have HCAP := hide hcap
    have HL1 := hide L1
    clear hB1 hcs h77 hcap L1
    go_wp2_with fail
    with_reducible refine (of_any _ l w1 HB1.out (by rw [HM.out]; omega)).mono ?_
    rintro e w2 ⟨rfl, L2⟩
    have HL2 := hide L2
    clear L2
    go_wp2_with fail
    with_reducible refine (ref_any _ l w2 ((HX.out.grow HL1.out).grow HL2.out) (by rw [HM.out]; omega)).mono ?_
    rintro e w3 ⟨rfl, L3⟩
    have HL3 := hide L3
    clear L3
    have he := sha_eql l
    go_wp2_with fail
    have L13 : Below w1.heap.size w1 w3 := below_trans_grows HL2.out HL3.out HL2.out.size
    have h := left_any (.slice A M c) l g cap w3 ((HX.out.grow HL1.out).grow L13) HCAP.out htop (fun i hi => (L13.cell (p := ⟨g, i, none⟩) (lt_of_cell (HCS.out i hi))).trans (HCS.out i hi)) ((L13.cell (p := ⟨g, l.length, none⟩) (lt_of_cell H77.out)).trans H77.out)
    with_reducible refine h.mono ?_
    rintro e w4 ⟨rfl, L4⟩
    have L03 := below_trans_grows HL1.out L13 HL1.out.size
    have HL4 := hide (below_trans_grows L03 L4 L03.size)
    clear L4 he h L03 L13
    go_wp2_with fail
    go_ret
    exact ⟨rfl, HL4.out⟩
open Go.ChangeShapes Go.WideShapes Go.ChangeAt Go.Joins in
theorem shasOf_law {H : Type} (enc : TypeId × Value → H) (W : World) (base : Nat) (v0 : Value) {d0 : DataW H} {p : List MemPlace} {S : List TypeId} {D : List (DataW H)}
    (hv0 : Value.okWide Try.prog W .any base 22 v0) (h0 : DataW.Trod enc Try.prog W 0 (fun _ => true) true 22 v0 d0 p)
    (_ : (DataW.weightsEach Try.prog S D).all (· ≤ reachBytes) = true) (_ : W.noneFrozen p) :
    Calls Try.prog 6 #[v0] W (LawEnds W) := by
  obtain ⟨A, len, cap, l, rfl, hin, -⟩ := ints_in Try.underlying22 Try.underlying5 (by kernel_rfl) h0 (okWide_slice_cells Try.underlying22 hv0)
  exact shasOf_any _ l W (.of_ints hin)
end Go.Proofs.Ytajbbajdglnecaa
