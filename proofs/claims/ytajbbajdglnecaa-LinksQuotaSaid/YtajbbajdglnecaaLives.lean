/- The chapter's quota ('lives'): it answers true, and changes nothing that was there. -/
import Derived.Test.YtajbbajdglnecaaQuotaRef
namespace Go.Proofs.Ytajbbajdglnecaa
open Go Go.RowKit

def one1 (k : Nat) : Int := if k = 1 then 1 else 0
def one2 (k : Nat) : Int := if k = 1 then 2 else 0
theorem take_t {b : Nat} {f : Int} {h h' : Nat → Int} {n : Int} {w : World} (h0 : 0 ≤ f) (hB : Blk w b 65 (qc h n)) (hm : n ≤ 1024) (hh : ∀ k, 0 ≤ h k) (r : Bool) (hr : takesB h n f = r) (he : qc (took h n f) n = qc h' n) :
    Calls Try.prog 15 #[.pointer (some ⟨b, 0, none⟩), .int .u8 f] w (TakeEnds w b 65 r (qc h' n)) := by
  have := take_any b f h n w h0 hB hm hh
  rw [hr, he] at this
  exact this

theorem one1_pos (k : Nat) : 0 ≤ one1 k := by unfold one1; split <;> omega
theorem one2_pos (k : Nat) : 0 ≤ one2 k := by unfold one2; split <;> omega

def Lives (w : World) (e : Ending) (w' : World) : Prop := e = .returned (.bool true) ∧ Below w.heap.size w w'

theorem grown_below {B b : Nat} {a w w' : World} (h : Below B a w) (hg : w.grownBy w' (some b)) (hB : B ≤ w.heap.size) (hb : B ≤ b) : Below B a w' :=
  h.grown hg hB (fun k hk => by injection hk with hk; omega)

set_option maxHeartbeats 1000000 in
theorem lives_any (w : World) : Calls Try.prog 10 #[] w (Lives w) := by
  go_enter Try.func10, Try.ntmps10
  go_wp2_with fail
  refine (new_ok 2 _ (by omega) (by omega)).mono ?_
  rintro e w0 ⟨rfl, hw0⟩
  have B0 : Blk w0 w.heap.size 65 (qc (fun _ => 0) 2) := by rw [hw0]; exact Blk.new _ _ _
  have L0 : Below w.heap.size w w0 := by rw [hw0]; exact (Below.refl _ _).alloc (Nat.le_refl _) _
  clear hw0
  go_wp2_with fail
  refine (take_t (by omega) B0 (by omega) (fun _ => by omega) true rfl (h' := one1) rfl).mono ?_
  rintro e w1 ⟨rfl, hg1, B1⟩
  have L1 := grown_below L0 hg1 L0.size (Nat.le_refl _)
  clear hg1
  go_wp2_with fail
  refine (take_t (by omega) B1 (by omega) one1_pos true rfl (h' := one2) rfl).mono ?_
  rintro e w2 ⟨rfl, hg2, B2⟩
  have L2 := grown_below L1 hg2 L1.size (Nat.le_refl _)
  clear hg2
  go_wp2_with fail
  refine (take_t (by omega) B2 (by omega) one2_pos false rfl (h' := one2) rfl).mono ?_
  rintro e w3 ⟨rfl, hg3, B3⟩
  have L3 := grown_below L2 hg3 L2.size (Nat.le_refl _)
  clear hg3
  go_wp2_with fail
  refine (tick_any _ _ _ _ B3).mono ?_
  rintro e w4 ⟨rfl, hg4, B4⟩
  have L4 := grown_below L3 hg4 L3.size (Nat.le_refl _)
  clear hg4
  go_wp2_with fail
  refine (take_t (by omega) B4 (by omega) (fun _ => by omega) true rfl (h' := one1) rfl).mono ?_
  rintro e w5 ⟨rfl, hg5, B5⟩
  have L5 := grown_below L4 hg5 L4.size (Nat.le_refl _)
  clear hg5 L0 L1 L2 L3 L4
  go_wp2_with (go_at_call 13; refine (tick_nil _).mono ?_; rintro e w' ⟨rfl, rfl⟩)
  refine (new_bad 0 _ (by omega)).mono ?_
  rintro e w' ⟨rfl, rfl⟩
  go_wp2_with (go_at_call 15; refine (take_nil _ _).mono ?_; rintro e w' ⟨rfl, nn, rfl⟩)
  go_ret
  exact ⟨rfl, below_drewN L5 _⟩

end Go.Proofs.Ytajbbajdglnecaa
