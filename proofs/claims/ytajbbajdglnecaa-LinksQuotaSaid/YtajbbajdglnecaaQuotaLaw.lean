/- The walk of LinksQuota: it answers true, and changes nothing that was there. -/
import Derived.Test.YtajbbajdglnecaaLives
import Derived.Deep.RegionHeld3
import Derived.Deep.DeepCutAuto
namespace Go.Proofs.Ytajbbajdglnecaa
open Go Go.RowKit

def CutRel (W : World) (q m : Nat) (tq tm : TypeId) (h : Nat → Int) (n : Int) (v : Value) (wx : World) : Prop := v = .bool false ∧ Below W.heap.size W wx ∧ Blk wx q tq (qc h n) ∧ Blk wx m tm (qr h n)
def QuotaRel (W : World) (q m : Nat) (tq tm : TypeId) (n : Int) (len : Nat) (i : Value) (wr : World) : Prop :=
  ∃ (k : Nat) (h : Nat → Int), k ≤ len ∧ i = .int .i64 k ∧ (∀ j, 0 ≤ h j) ∧ Below W.heap.size W wr ∧ Blk wr q tq (qc h n) ∧ Blk wr m tm (qr h n)
theorem took_pos {h : Nat → Int} {n f : Int} (hh : ∀ j, 0 ≤ h j) (j : Nat) : 0 ≤ took h n f j := by
  unfold took
  split
  · have := hh j
    dsimp only
    split <;> omega
  · exact hh j

set_option maxHeartbeats 1000000 in
theorem quota_err (n : Int) (A : Option Addr) (len cap : Nat) (W : World) (hlen : len ≤ 5000) (h : n < 1 ∨ 1024 < n) :
    Calls Try.prog 3 #[.int .i64 n, .slice A len cap] W (Lives W) := by
  go_enter Try.func3, Try.ntmps3
  have H := hide h
  clear h
  go_wp2_with (first
    | (go_at_call 11; refine (new_bad n _ H.out).mono ?_; rintro e w' ⟨rfl, rfl⟩)
    | (go_at_call 12; refine (rnew_bad n _ H.out).mono ?_; rintro e w' ⟨rfl, rfl⟩))
  refine (lives_any _).mono ?_
  rintro e w2 ⟨rfl, L2⟩
  go_wp2_with fail
  go_ret
  exact ⟨rfl, L2⟩

set_option maxHeartbeats 1000000 in
theorem quota_long (n : Int) (A : Option Addr) (len cap : Nat) (W : World) (hlen : 5000 < len) :
    Calls Try.prog 3 #[.int .i64 n, .slice A len cap] W (Lives W) := by
  go_enter Try.func3, Try.ntmps3
  go_wp2_with fail
  refine (lives_any _).mono ?_
  rintro e w2 ⟨rfl, L2⟩
  go_wp2_with fail
  go_ret
  exact ⟨rfl, L2⟩

set_option maxHeartbeats 2000000 in
theorem quota_ok (n : Int) (A : Option Addr) (len cap : Nat) (l : List Int) (W : World) (hin : IntsIn W .u8 A len cap l) (hlen : len ≤ 5000) (h1 : 1 ≤ n) (h2 : n ≤ 1024) :
    Calls Try.prog 3 #[.int .i64 n, .slice A len cap] W (Lives W) := by
  go_enter Try.func3, Try.ntmps3
  go_wp2_with fail
  refine (new_ok _ _ (by omega) (by omega)).mono ?_
  rintro e w0 ⟨rfl, hw0⟩
  have B0 : Blk w0 W.heap.size 65 (qc (fun _ => 0) n) := by rw [hw0]; exact Blk.new _ _ _
  have L0 : Below W.heap.size W w0 := by rw [hw0]; exact (Below.refl _ _).alloc (Nat.le_refl _) _
  have hs0 : W.heap.size < w0.heap.size := by rw [hw0]; simp
  clear hw0
  generalize hq : W.heap.size = q at B0
  have hqW : W.heap.size ≤ q := by omega
  have hqm : q < w0.heap.size := by omega
  clear hq hs0
  go_wp2_with fail
  refine (rnew_ok _ _ (by omega) (by omega)).mono ?_
  rintro e w1 ⟨rfl, hw1⟩
  have B1 : Blk w1 q 65 (qc (fun _ => 0) n) := by rw [hw1]; exact B0.alloc _
  have M1 : Blk w1 w0.heap.size 67 (qr (fun _ => 0) n) := by rw [hw1]; exact Blk.new _ _ _
  have L1 : Below W.heap.size W w1 := by rw [hw1]; exact L0.alloc L0.size _
  have hmW : W.heap.size ≤ w0.heap.size := L0.size
  have hne : q ≠ w0.heap.size := by omega
  clear hw1 B0
  generalize w0.heap.size = m at *
  clear L0 hqm
  go_wp2_with fail
  go_loopw [9] (fun i wr => QuotaRel W q m 65 67 n len i wr) (fun i _ => len - (intOf i).toNat)
  case atStart => exact ⟨0, _, by omega, rfl, fun _ => by omega, L1, B1, M1⟩
  case round =>
    obtain ⟨k, h, hk, rfl, hh, L, B, M⟩ := hrel
    have HH := hide hh
    clear hh
    by_cases hlt : k < len
    · obtain ⟨a, rfl, hc⟩ := hin.below L hlt
      obtain ⟨hb0, hb1⟩ := hin.u8 hlt
      have ha : a.block < W.heap.size := by
        obtain ⟨a', ha', hlt', _⟩ := hin.cell k hlt
        injection ha' with ha'
        subst ha'
        exact hlt'
      generalize l.getD k 0 = x at *
      by_cases hx : 250 ≤ x
      · go_wp2_with fail
        refine (tick_any _ _ _ _ B).mono ?_
        rintro e w2 ⟨rfl, hg2, B2⟩
        have L2 := grown_below L hg2 L.size hqW
        have M2 := M.grown hg2 (by simp; omega)
        go_wp2_with fail
        refine (rtick_any _ _ _ _ M2).mono ?_
        rintro e w3 ⟨rfl, hg3, M3⟩
        have L3 := grown_below L2 hg3 L2.size hmW
        have B3 := B2.grown hg3 (by simp; omega)
        clear hg2 hg3
        go_wp2
        go_roundw
        case rel => exact ⟨k + 1, _, by omega, by go_num, fun _ => by omega, L3, B3, M3⟩
        case measure => simp [intOf]; omega
      · go_upto_region 15 with fail
        have hmod : 0 ≤ x % 10 := by omega
        go_cut [63] (fun s wx => CutRel W q m 65 67 (took h n (x % 10)) n s wx)
        case first =>
          have hcq : ∀ (w' : World), (wr.drewN 1).grownBy w' (some q) → w'.cell? (a.add k) = some (.int .u8 x) := fun w' g => (g.cell_far (a := a.add k) (by rw [block_of_add]; exact Nat.lt_of_lt_of_le ha L.size) (fun e => by rw [block_of_add] at e; injection e with e; omega)).trans hc
          have hcm : ∀ (w' : World), (wr.drewN 1).grownBy w' (some m) → w'.cell? (a.add k) = some (.int .u8 x) := fun w' g => (g.cell_far (a := a.add k) (by rw [block_of_add]; exact Nat.lt_of_lt_of_le ha L.size) (fun e => by rw [block_of_add] at e; injection e with e; omega)).trans hc
          have HQ := hide hcq
          have HM := hide hcm
          have HB := hide B
          have HMB := hide M
          have HL := hide L
          clear hcq hcm B M L hin
          have t1 : x.tmod 10 = x % 10 := Int.tmod_eq_emod_of_nonneg hb0
          go_region_with (first
              | (go_at_call 15; (with_reducible refine (take_any q (x % 10) h n _ hmod ?_ h2 HH.out).mono ?_); (first | exact HB.out | exact HB.out.drew | exact Blk.grown (w := World.drew wr) HB.out.drew (by assumption) (by simp; omega)); rintro e w' ⟨rfl, hgq, hBq⟩; (try have hcc := HQ.out _ hgq))
              | (go_at_call 16; (with_reducible refine (rtake_any m (x % 10) h n _ hmod ?_ h2 HH.out).mono ?_); (first | exact HMB.out | exact HMB.out.drew | exact Blk.grown (w := World.drew wr) HMB.out.drew (by assumption) (by simp; omega)); rintro e w' ⟨rfl, hgm, hBm⟩; (try have hcc := HM.out _ hgm)))
          all_goals
            go_wp2_with fail
            go_meet
            first
              | exact ⟨by simp, grown_below (grown_below HL.out.drew hgq HL.out.size hqW) hgm (Nat.le_trans HL.out.size hgq.size) hmW, Blk.grown hBq hgm (by simp; omega), hBm⟩
              | exact ⟨by simp, grown_below (grown_below HL.out.drew hgm HL.out.size hmW) hgq (Nat.le_trans HL.out.size hgm.size) hqW, hBq, Blk.grown hBm hgq (by simp; omega)⟩
        case rest =>
          obtain ⟨rfl, L1, B1, M1⟩ := hcut
          go_wp2
          go_roundw
          case rel => exact ⟨k + 1, _, by omega, by go_num, took_pos HH.out, L1, B1, M1⟩
          case measure => simp [intOf]; omega
    · go_wp2_with fail
      refine (lives_any _).mono ?_
      rintro e w2 ⟨rfl, L2⟩
      go_wp2_with fail
      go_ret
      exact ⟨rfl, L.trans (L2.mono L.size)⟩

open Go.ChangeShapes Go.WideShapes Go.ChangeAt Go.Joins in
theorem quota_law {H : Type} (enc : TypeId × Value → H) (W : World) (base : Nat) (v0 v1 : Value) {d0 d1 : DataW H} {p0 p1 p : List MemPlace} {S : List TypeId} {D : List (DataW H)}
    (hv0 : Value.okWide Try.prog W .any base 3 v0) (hv1 : Value.okWide Try.prog W .any base 22 v1) (h0 : DataW.Trod enc Try.prog W 0 (fun _ => true) true 3 v0 d0 p0) (h1 : DataW.Trod enc Try.prog W 0 (fun _ => true) true 22 v1 d1 p1)
    (_ : (DataW.weightsEach Try.prog S D).all (· ≤ reachBytes) = true) (_ : W.noneFrozen p) :
    Calls Try.prog 3 #[v0, v1] W (Lives W) := by
  obtain ⟨n, rfl, -, -, -⟩ := open_int Try.underlying3 hv0 h0
  obtain ⟨A, len, cap, l, rfl, hin, -⟩ := ints_in Try.underlying22 Try.underlying5 (by kernel_rfl) h1 (okWide_slice_cells Try.underlying22 hv1)
  by_cases hlen : 5000 < len
  · exact quota_long n A len cap W hlen
  by_cases hn : n < 1 ∨ 1024 < n
  · exact quota_err n A len cap W (by omega) hn
  · exact quota_ok n A len cap l W hin (by omega) (by omega) (by omega)

end Go.Proofs.Ytajbbajdglnecaa
