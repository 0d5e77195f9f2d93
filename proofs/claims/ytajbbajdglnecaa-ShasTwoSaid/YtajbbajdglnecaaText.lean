/- A hash, as digits. -/
import Derived.Test.YtajbbajdglnecaaAlive
namespace Go.Proofs.Ytajbbajdglnecaa
open Go Go.RowKit

def dg : ByteArray := ⟨#[48, 49, 50, 51, 52, 53, 54, 55, 56, 57, 97, 98, 99, 100, 101, 102]⟩
def hx (xs : List Int) : Nat → ByteArray
  | 0 => ⟨#[]⟩
  | k + 1 => hx xs k ++ dg.extract (at_ xs k / 16).toNat (at_ xs k / 16 + 1).toNat ++ dg.extract (at_ xs k % 16).toNat (at_ xs k % 16 + 1).toNat
theorem hx_size (xs : List Int) : ∀ k, (hx xs k).size ≤ 2 * k
  | 0 => by simp [hx, ByteArray.size]
  | k + 1 => by
    have := hx_size xs k
    unfold hx
    have h : dg.size = 16 := rfl
    simp only [ByteArray.size_append, ByteArray.size_extract, h]
    omega
def TextRel (w : World) (q : Nat) (t48 : TypeId) (row : Array Value) (xs : List Int) (s i : Value) (wr : World) : Prop :=
  ∃ k : Nat, k ≤ 32 ∧ i = .int .i64 (k : Nat) ∧ s = .string (hx xs k) ∧ Below w.heap.size w wr ∧ Blk wr q t48 row
set_option maxHeartbeats 1000000 in
theorem text_any (row : Array Value) (xs : List Int) (w : World) (hr : ∀ k, k < 32 → row[k]? = some (.int .u8 (at_ xs k))) (hw : ∀ k, 0 ≤ at_ xs k ∧ at_ xs k ≤ 255) :
    Calls Try.prog 32 #[.agg row] w fun e w' => e = .returned (.string (hx xs 32)) ∧ Below w.heap.size w w' := by
  have HR := hide hr
  have HW := hide hw
  clear hr hw
  go_enter Try.func32, Try.ntmps32
  go_wp2_with fail
  have B1 := Blk.new w 48 row
  have L1 : Below w.heap.size w (w.alloc (.cells row 48)) := (Below.refl _ _).alloc (Nat.le_refl _) _
  change Code.wp _ _ _ _ (w.alloc (.cells row 48))
  generalize w.alloc (.cells row 48) = w1 at *
  go_loopw [3, 4] (fun s i wr => TextRel w w.heap.size 48 row xs s i wr) (fun _ i _ => 32 - (intOf i).toNat)
  case atStart => exact ⟨0, by omega, rfl, rfl, L1, B1⟩
  case round =>
    clear L1 B1
    obtain ⟨k, hk, rfl, rfl, L, B⟩ := hrel
    by_cases hk32 : k < 32
    · have g1 := cell_grows B.drew (HR.out k hk32)
      obtain ⟨hu0, hu1⟩ := HW.out k
      have hxs : hx xs (k + 1) = hx xs k ++ dg.extract (at_ xs k / 16).toNat (at_ xs k / 16 + 1).toNat ++ dg.extract (at_ xs k % 16).toNat (at_ xs k % 16 + 1).toNat := rfl
      have HXS := hide hxs
      clear hxs
      generalize at_ xs k = x at *
      have hsz := hx_size xs k
      generalize hx xs k = s at *
      go_wp2_with fail
      have hb1 : 0 ≤ x / 16 ∧ x / 16 ≤ x / 16 + 1 := by omega
      have hb2 : 0 ≤ x % 16 ∧ x % 16 ≤ x % 16 + 1 := by omega
      have hc1 : ¬ 9223372036854775807 < s.size + (min (x / 16 + 1).toNat 16 - (x / 16).toNat) := by omega
      have hc2 : ¬ 9223372036854775807 < s.size + (min (x / 16 + 1).toNat 16 - (x / 16).toNat) + (min (x % 16 + 1).toNat 16 - (x % 16).toNat) := by omega
      refine wp_region_kinds 23 (by kernel_rfl) (by kernel_rfl) (fun F hF => ?_)
      repeat (first
        | refine kinds_move_is _ rfl (Or.inl rfl) rfl ?_
        | refine kinds_move_is _ rfl (Or.inr rfl) rfl ?_
        | refine kinds_off rfl rfl rfl rfl ?_
        | refine kinds_off' rfl rfl rfl ?_
        | ((first | refine kinds_on rfl rfl rfl ?_ | skip)
           apply kinds_is rfl
           · intro ρ wv K hw hf hK
             first | obtain ⟨e0, e1, e2, e3, e4, e5, e6, -⟩ := hf | obtain ⟨e0, e1, e2, e3, e4, e5, -⟩ := hf | obtain ⟨e0, e1, e2, e3, e4, -⟩ := hf | obtain ⟨e0, e1, e2, e3, -⟩ := hf | obtain ⟨e0, e1, e2, -⟩ := hf | obtain ⟨e0, e1, -⟩ := hf | obtain ⟨e0, -⟩ := hf | clear hf
             (try change ρ _ = _ at e0)
             (try change ρ _ = _ at e1)
             (try change ρ _ = _ at e2)
             (try change ρ _ = _ at e3)
             unfold gives
             go_simp
             (try go_ints)
             (try rw [if_pos (by omega)])
             exact hK _ (Grows.refl _)))
      refine kinds_nil (hF _ rfl rfl (fun ww hg => ?_))
      clear hF F
      simp only [pushSlot, finish, Act.put, List.setIfInBounds_toArray, List.set_cons_succ, List.set_cons_zero]
      simp only [List.drop_succ_cons, List.drop_zero]
      have L1 := below_trans_grows L.drew hg L.size
      have B1 := B.drew.below hg B.lt
      clear g1 L B hg
      go_wp2_with fail
      go_roundw
      case rel => exact ⟨k + 1, by omega, by go_num, by rw [HXS.out]; rfl, L1, B1⟩
      case measure => simp [intOf]; omega
    · obtain rfl : k = 32 := by omega
      go_wp2_with fail
      go_ret
      exact ⟨rfl, L⟩
end Go.Proofs.Ytajbbajdglnecaa
