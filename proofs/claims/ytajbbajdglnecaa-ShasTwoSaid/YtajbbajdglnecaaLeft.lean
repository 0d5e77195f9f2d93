/- Bytes, as they were. -/
import Derived.Test.YtajbbajdglnecaaTwin
namespace Go.Proofs.Ytajbbajdglnecaa
open Go Go.RowKit

def LeftRel (w : World) (M : Nat) (i : Value) (wr : World) : Prop := ∃ k, k ≤ M ∧ i = .int .i64 (k : Nat) ∧ Below w.heap.size w wr
set_option maxRecDepth 100000 in
set_option maxHeartbeats 2000000 in
theorem left_any (v : Value) (l : List Int) (g cap : Nat) (w : World) (hx : BytesAt w v l) (hcap : l.length + 1 ≤ cap) (htop : cap ≤ 9223372036854775807)
    (hc : ∀ i, i < l.length → w.cell? ⟨g, i, none⟩ = some (.int .u8 (at_ l i))) (h77 : w.cell? ⟨g, l.length, none⟩ = some (.int .u8 77)) :
    Calls Try.prog 22 #[.slice (some ⟨g, 0, none⟩) l.length cap, v] w fun e w' => e = .returned (.bool true) ∧ Below w.heap.size w w' := by
  obtain ⟨A, c, rfl⟩ := hx.len
  have HX := hide hx
  have HC := hide hc
  clear hx hc
  generalize l.length = M at *
  obtain ⟨i0, hi0, _⟩ := info_parts info_u8w
  have hsl : ∀ W, (Instr.slice 22 (.slice (some ⟨g, 0, none⟩) M cap) none (some (.int .i64 ((M : Int) + 1))) none).run Try.prog W = .ok (.slice (some ⟨g, 0, none⟩) (M + 1) cap) W := fun W =>
    run_slice_high 22 5 i0 g M cap (M + 1) .i64 Try.underlying22 hi0 (by omega) W
  have HSL := hide hsl
  clear hsl
  have hT : ¬ (cap : Int) ≤ (M : Int) := by omega
  have H77 := hide h77
  clear h77
  go_enter Try.func22, Try.ntmps22
  go_wp2_with fail
  go_loopw [5] (fun i wr => LeftRel w M i wr) (fun i _ => M - (intOf i).toNat)
  case atStart => exact ⟨0, by omega, rfl, Below.refl _ _⟩
  case round =>
    obtain ⟨k, hk, rfl, L⟩ := hrel
    by_cases hkm : k < M
    · obtain ⟨g2, o, rfl, hgc, hcs⟩ := bytes_cells (HX.out.grow L) (by omega)
      obtain ⟨hl0, hl1, hld⟩ := hcs k hkm
      have hlt := (L.cell (p := ⟨g, k, none⟩) (lt_of_cell (HC.out k hkm))).trans (HC.out k hkm)
      clear hcs
      generalize at_ l k = u at *
      have g1 : ∀ w', Grows wr.drew w' → w'.cell? ⟨g2, o + k, none⟩ = some (.int .u8 u) := fun w' h => (h.cell (p := ⟨g2, o + k, none⟩) (by have := lt_of_cell hld; simpa using this)).trans hld
      have g2 : ∀ w', Grows wr.drew w' → w'.cell? ⟨g, k, none⟩ = some (.int .u8 u) := fun w' h => (h.cell (p := ⟨g, k, none⟩) (by have := lt_of_cell hlt; simpa using this)).trans hlt
      go_wp2_with fail
      refine wp_region_kinds 9 (by kernel_rfl) (by kernel_rfl) (fun F hF => ?_)
      repeat (first
        | refine kinds_move_is _ rfl (Or.inl rfl) rfl ?_
        | refine kinds_move_is _ rfl (Or.inr rfl) rfl ?_
        | refine kinds_off rfl rfl rfl rfl ?_
        | refine kinds_off' rfl rfl rfl ?_
        | ((first | refine kinds_on rfl rfl rfl ?_ | skip)
           apply kinds_is rfl
           · intro ρ wv K hw hf hK
             first | obtain ⟨e0, e1, e2, e3, e4, e5, e6, -⟩ := hf | obtain ⟨e0, e1, e2, e3, e4, e5, -⟩ := hf | obtain ⟨e0, e1, e2, e3, e4, -⟩ := hf | obtain ⟨e0, e1, e2, e3, -⟩ := hf | obtain ⟨e0, e1, e2, -⟩ := hf | obtain ⟨e0, e1, -⟩ := hf | obtain ⟨e0, -⟩ := hf | clear hf
             (try change ρ _ = _ at e0)
             (try change ρ _ = _ at e1)
             (try change ρ _ = _ at e2)
             (try change ρ _ = _ at e3)
             unfold gives
             go_simp
             (try go_ints)
             (try rw [if_pos (by omega)])
             exact hK _ (Grows.refl _)))
      refine kinds_nil (hF _ rfl rfl (fun ww hg => ?_))
      clear hF F
      simp only [pushSlot, finish, Act.put, List.setIfInBounds_toArray, List.set_cons_succ, List.set_cons_zero]
      simp only [List.drop_succ_cons, List.drop_zero]
      have L1 := below_trans_grows L.drew hg L.size
      clear g1 g2 hld hlt L hg
      go_wp2_with fail
      go_roundw
      case rel => exact ⟨k + 1, by omega, by go_num, L1⟩
      case measure => simp [intOf]; omega
    · obtain rfl : k = M := by omega
      have hsl := HSL.out
      have h77 := (L.cell (p := ⟨g, k, none⟩) (lt_of_cell H77.out)).trans H77.out
      go_wp2_with fail
      go_ret
      exact ⟨rfl, L⟩
end Go.Proofs.Ytajbbajdglnecaa
