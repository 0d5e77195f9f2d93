/- SHA-256's small functions, of the program and of the reference. -/
import Derived.Test.YtajbbajdglnecaaRows
import Derived.Test.YtajbbajdglnecaaWord
import Derived.WalkKit
import Derived.WalkSpells
import Derived.WalkLawsBesides
import Derived.BigQuiet
import Derived.ChangeAlike
import Derived.Outline
import Derived.Deep.RegionHeld3
import Derived.Deep.DeepCutAuto
namespace Go.Proofs.Ytajbbajdglnecaa
open Go Go.RowKit

theorem neg_and (k : Nat) (h0 : 1 ≤ k) (h1 : k ≤ 31) : bits BinOp.and IntKind.u64 (IntKind.u64.wrap (-(k : Int))) 31 = 32 - (k : Int) := by
  have e : IntKind.u64.wrap (-(k : Int)) = ((18446744073709551616 - k : Nat) : Int) := by
    simp only [IntKind.wrap, IntKind.bits, IntKind.signed]; simp; omega
  rw [e, show (31 : Int) = ((31 : Nat) : Int) from rfl, u64_and_nat _ _ (by omega) (by omega), nat_mask5]
  omega

set_option maxHeartbeats 400000 in
theorem rot_any (x : B32) (k : Nat) (w : World) (h0 : 1 ≤ k) (h1 : k ≤ 31) :
    Calls Try.prog 37 #[.int .u32 (un x), .int .i64 (-(k : Int))] w fun e w' => e = .returned (.int .u32 (un (rr x k))) ∧ w = w' := by
  have hs := neg_and k h0 h1
  have u0 := un_lo x
  have u1 := un_hi x
  have e1 : (32 - (k : Int)).toNat = 32 - k := by omega
  have e2 : (32 - (32 - (k : Int))).toNat = k := by omega
  go_enter Try.func37, Try.ntmps37
  go_wp2
  go_ret
  refine ⟨ret_int ?_, rfl⟩
  have := w_rr' x k
  simpa [e1, e2] using this

set_option maxHeartbeats 400000 in
theorem round_any (x : B32) (k : Nat) (w : World) (h1 : k ≤ 31) :
    Calls Try.prog 34 #[.int .u32 (un x), .int .u64 k] w fun e w' => e = .returned (.int .u32 (un (rr x k))) ∧ w = w' := by
  have u0 := un_lo x
  have u1 := un_hi x
  have e1 : (32 - (k : Int)).toNat = 32 - k := by omega
  go_enter Try.func34, Try.ntmps34
  go_wp2
  go_ret
  refine ⟨ret_int ?_, rfl⟩
  have := w_rr x k
  simpa [e1] using this
theorem round_7 (x : B32) (w : World) : Calls Try.prog 34 #[.int .u32 (un x), .int .u64 7] w fun e w' => e = .returned (.int .u32 (un (rr x 7))) ∧ w = w' := round_any x 7 w (by omega)
theorem round_18 (x : B32) (w : World) : Calls Try.prog 34 #[.int .u32 (un x), .int .u64 18] w fun e w' => e = .returned (.int .u32 (un (rr x 18))) ∧ w = w' := round_any x 18 w (by omega)
theorem round_17 (x : B32) (w : World) : Calls Try.prog 34 #[.int .u32 (un x), .int .u64 17] w fun e w' => e = .returned (.int .u32 (un (rr x 17))) ∧ w = w' := round_any x 17 w (by omega)
theorem round_19 (x : B32) (w : World) : Calls Try.prog 34 #[.int .u32 (un x), .int .u64 19] w fun e w' => e = .returned (.int .u32 (un (rr x 19))) ∧ w = w' := round_any x 19 w (by omega)
theorem round_6 (x : B32) (w : World) : Calls Try.prog 34 #[.int .u32 (un x), .int .u64 6] w fun e w' => e = .returned (.int .u32 (un (rr x 6))) ∧ w = w' := round_any x 6 w (by omega)
theorem round_11 (x : B32) (w : World) : Calls Try.prog 34 #[.int .u32 (un x), .int .u64 11] w fun e w' => e = .returned (.int .u32 (un (rr x 11))) ∧ w = w' := round_any x 11 w (by omega)
theorem round_25 (x : B32) (w : World) : Calls Try.prog 34 #[.int .u32 (un x), .int .u64 25] w fun e w' => e = .returned (.int .u32 (un (rr x 25))) ∧ w = w' := round_any x 25 w (by omega)
theorem round_2 (x : B32) (w : World) : Calls Try.prog 34 #[.int .u32 (un x), .int .u64 2] w fun e w' => e = .returned (.int .u32 (un (rr x 2))) ∧ w = w' := round_any x 2 w (by omega)
theorem round_13 (x : B32) (w : World) : Calls Try.prog 34 #[.int .u32 (un x), .int .u64 13] w fun e w' => e = .returned (.int .u32 (un (rr x 13))) ∧ w = w' := round_any x 13 w (by omega)
theorem round_22 (x : B32) (w : World) : Calls Try.prog 34 #[.int .u32 (un x), .int .u64 22] w fun e w' => e = .returned (.int .u32 (un (rr x 22))) ∧ w = w' := round_any x 22 w (by omega)

/-- A word, turned to the right by each of these, taken against each other. -/
def mixS (x : B32) (l : List Nat) : B32 := l.foldl (fun o k => o ^^^ rr x k) 0#32
theorem mixS_snoc (x : B32) (l : List Nat) (k : Nat) : mixS x (l ++ [k]) = mixS x l ^^^ rr x k := by unfold mixS; rw [List.foldl_append]; rfl
theorem mixS_two (x : B32) (a b : Nat) : mixS x [a, b] = rr x a ^^^ rr x b := by unfold mixS; simp
theorem mixS_three (x : B32) (a b c : Nat) : mixS x [a, b, c] = rr x a ^^^ rr x b ^^^ rr x c := by unfold mixS; simp
theorem un_zero : un 0#32 = 0 := rfl

set_option maxHeartbeats 400000 in
theorem mix_any (x : B32) (ad : Addr) (n : Nat) (l : List Nat) (w : World) (hn : l.length = n) (h31 : n ≤ 31) (hl : ∀ k ∈ l, 1 ≤ k ∧ k ≤ 31) (hc : ∀ i : Nat, i < n → w.cell? (ad.add i) = some (.int .i64 ((l.getD i 0 : Nat) : Int))) :
    Calls Try.prog 35 #[.int .u32 (un x), .slice (some ad) n n] w fun e w' => e = .returned (.int .u32 (un (mixS x l))) ∧ w = w' := by
  have HC := hide hc
  have HN := hide hn
  have HLL := hide hl
  clear hc hn hl
  go_enter Try.func35, Try.ntmps35
  go_wp2_with fail
  go_loop [4, 9] (fun o i => ∃ k : Nat, k ≤ n ∧ i = .int .i64 k ∧ o = .int .u32 (un (mixS x (l.take k)))) (fun _ i => n - (intOf i).toNat)
  case atStart => exact ⟨0, Nat.zero_le _, rfl, by rw [List.take_zero]; rfl⟩
  case round =>
    obtain ⟨k, hk, rfl, rfl⟩ := hrel
    by_cases hlt : k < n
    · have hcell := HC.out k hlt
      have hlen := HN.out
      have hm : l.getD k 0 ∈ l := by
        rw [List.getD_eq_getElem?_getD, List.getElem?_eq_getElem (by omega)]
        exact List.getElem_mem _
      obtain ⟨g0, g1⟩ := HLL.out _ hm
      have HS : Keep (mixS x (l.take (k + 1)) = mixS x (l.take k) ^^^ rr x (l.getD k 0)) := Keep.mk (by
        show mixS x (l.take (k + 1)) = _
        rw [List.take_succ_eq_append_getElem (by omega), mixS_snoc, List.getD_eq_getElem?_getD, List.getElem?_eq_getElem (by omega)]
        rfl)
      clear hm hlen
      generalize l.getD k 0 = j at *
      go_wp2_with (go_at_call 37; (with_reducible refine (rot_any x j _ g0 g1).mono ?_); rintro e w' ⟨rfl, rfl⟩)
      go_round
      case rel => exact ⟨k + 1, by omega, by go_num, by rw [HS.out, ← w_xor]⟩
      case measure => simp [intOf]; omega
    · have hkn : k = n := by omega
      have HE : Keep (l.take k = l) := Keep.mk (by
        show l.take k = l
        rw [List.take_of_length_le (by have := HN.out; omega)])
      clear hkn
      go_wp2
      go_ret
      exact ⟨ret_int (by rw [HE.out]), rfl⟩

end Go.Proofs.Ytajbbajdglnecaa
