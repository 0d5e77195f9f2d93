/- Records: many bytes; how many they are. -/
import Derived.Test.YtajbbajdglnecaaLeft
namespace Go.Proofs.Ytajbbajdglnecaa
open Go Go.RowKit

structure RecsAt (w : World) (S : Option Addr) (n : Nat) (V : Nat → Value) (ls : Nat → List Int) : Prop where
  cell : ∀ r : Nat, r < n → ∃ g o, S = some ⟨g, o, none⟩ ∧ w.cell? ⟨g, o + r, none⟩ = some (V r)
  part : ∀ r : Nat, r < n → BytesAt w (V r) (ls r)
  len : ∀ r : Nat, r < n → (ls r).length ≤ 140737488351232
theorem RecsAt.grow {w w' : World} {S : Option Addr} {n : Nat} {V : Nat → Value} {ls : Nat → List Int} (h : RecsAt w S n V ls) (hb : Below w.heap.size w w') : RecsAt w' S n V ls :=
  ⟨fun r hr => by
    obtain ⟨g, o, e, hc⟩ := h.cell r hr
    exact ⟨g, o, e, (hb.cell (p := ⟨g, o + r, none⟩) (lt_of_cell hc)).trans hc⟩, fun r hr => (h.part r hr).grow hb, h.len⟩

theorem bytesSize_any (A : Option Addr) (n c : Nat) (w : World) : Calls Try.prog 30 #[.slice A n c] w fun e w' => e = .returned (.int .i64 (n : Int)) ∧ w = w' := by
  go_enter Try.func30, Try.ntmps30
  go_wp2_with fail
  go_ret
  exact ⟨rfl, rfl⟩
def SizeRel (w : World) (n : Nat) (ls : Nat → List Int) (x i : Value) (wr : World) : Prop :=
  ∃ k z : Nat, k ≤ n ∧ i = .int .i64 (k : Nat) ∧ x = .int .i64 (z : Nat) ∧ z ≤ 140737489399808 ∧ (z ≤ 1048576 → ∀ r, r < k → (ls r).length ≤ 1048576) ∧ Below w.heap.size w wr
def SizeEnds (w : World) (n : Nat) (ls : Nat → List Int) (e : Ending) (w' : World) : Prop :=
  ∃ z : Nat, e = .returned (.int .i64 (z : Nat)) ∧ z ≤ 140737489399808 ∧ (z ≤ 1048576 → ∀ r, r < n → (ls r).length ≤ 1048576) ∧ Below w.heap.size w w'
set_option maxHeartbeats 1000000 in
theorem recordsSize_any (S : Option Addr) (n c : Nat) (V : Nat → Value) (ls : Nat → List Int) (w : World) (h : RecsAt w S n V ls) (hn : n ≤ 1048576) :
    Calls Try.prog 24 #[.slice S n c] w (SizeEnds w n ls) := by
  have HR := hide h
  clear h
  go_enter Try.func24, Try.ntmps24
  go_wp2_with fail
  go_loopw [3, 4] (fun x i wr => SizeRel w n ls x i wr) (fun _ i _ => n - (intOf i).toNat)
  case atStart => exact ⟨0, n, by omega, rfl, rfl, by omega, fun _ r hr => absurd hr (by omega), Below.refl _ _⟩
  case round =>
    obtain ⟨k, z, hk, rfl, rfl, hz, hs, L⟩ := hrel
    have HS := hide hs
    have HL := hide L
    clear hs L
    by_cases hkn : k < n
    · by_cases hz2 : z ≤ 1048576
      · have HR1 := HR.out.grow HL.out
        obtain ⟨g, o, rfl, hc⟩ := HR1.cell k hkn
        obtain ⟨A, cc, hv⟩ := (HR1.part k hkn).len
        rw [hv] at hc
        have hlk := HR1.len k hkn
        have HNEW : Keep (z + (ls k).length ≤ 1048576 → ∀ r, r < k + 1 → (ls r).length ≤ 1048576) := ⟨fun h r hr => by
          rcases Nat.lt_or_ge r k with h1 | h1
          · exact HS.out hz2 r h1
          · obtain rfl : r = k := by omega
            omega⟩
        clear HR1 hv
        generalize (ls k).length = m at *
        go_wp2_with fail
        refine (bytesSize_any _ _ _ _).mono ?_
        rintro e w' ⟨rfl, rfl⟩
        go_wp2_with fail
        go_roundw
        case rel => exact ⟨k + 1, z + m, by omega, by go_num, by go_num, by omega, HNEW.out, HL.out⟩
        case measure => simp [intOf]; omega
      · go_wp2_with fail
        go_ret
        exact ⟨z, rfl, hz, fun h => absurd h hz2, HL.out⟩
    · obtain rfl : k = n := by omega
      go_wp2_with fail
      go_ret
      exact ⟨z, rfl, hz, HS.out, HL.out⟩
theorem beyond_any (g z cap : Nat) (w : World) (hz : z ≤ 140737489399808) (hc : w.cell? ⟨g, 0, none⟩ = some (.int .i64 (z : Int))) :
    Calls Try.prog 23 #[.slice (some ⟨g, 0, none⟩) 1 cap] w fun e w' => e = .returned (.bool (decide (1048576 < z))) ∧ Below w.heap.size w w' := by
  go_enter Try.func23, Try.ntmps23
  go_wp2_with fail
  refine wp_loop_rounds 2 ?_
  rw [rounds_succ]
  by_cases hb : 1048576 < z
  · go_wp2_with fail
    go_ret
    exact ⟨by simp [hb], Below.refl _ _⟩
  · go_wp2_with fail
    rw [rounds_succ]
    go_wp2_with fail
    go_ret
    exact ⟨by simp [hb], Below.refl _ _⟩
end Go.Proofs.Ytajbbajdglnecaa
