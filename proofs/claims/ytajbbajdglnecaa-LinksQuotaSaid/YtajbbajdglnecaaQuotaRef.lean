/- The reference's quota of frames (layer 20), and the chapter's quota ('lives'): what each call does to the quota's block. -/
import Derived.Test.YtajbbajdglnecaaQuota
namespace Go.Proofs.Ytajbbajdglnecaa
open Go Go.RowKit

set_option maxHeartbeats 400000 in
theorem rnew_bad (n : Int) (w : World) (h : n < 1 ∨ 1024 < n) :
    Calls Try.prog 12 #[.int .i64 n] w fun e w' => e = .returned (.tuple #[.pointer none, .int .i64 1]) ∧ w = w' := by
  rcases h with h | h
  · go_enter Try.func12, Try.ntmps12
    go_wp2
    go_ret2
    exact ⟨rfl, rfl⟩
  · have h' : ¬ n < 1 := by omega
    go_enter Try.func12, Try.ntmps12
    go_wp2
    go_ret2
    exact ⟨rfl, rfl⟩

set_option maxHeartbeats 400000 in
theorem rnew_ok (n : Int) (w : World) (h1 : 1 ≤ n) (h2 : n ≤ 1024) :
    Calls Try.prog 12 #[.int .i64 n] w (NewEnds w 67 (qr (fun _ => 0) n)) := by
  go_enter Try.func12, Try.ntmps12
  go_wp2
  go_ret2
  exact ⟨rfl, rfl⟩

set_option maxHeartbeats 400000 in
theorem rtake_any (b : Nat) (f : Int) (h : Nat → Int) (n : Int) (w : World) (h0 : 0 ≤ f) (hB : Blk w b 67 (qr h n)) (hm : n ≤ 1024) (hh : ∀ k, 0 ≤ h k) :
    Calls Try.prog 16 #[.pointer (some ⟨b, 0, none⟩), .int .u8 f] w (TakeEnds w b 67 (takesB h n f) (qr (took h n f) n)) := by
  have hrefl := World.grownBy.refl w (some b)
  have HB := hide hB
  by_cases h1 : f < 1
  · have d1 : decide (f < 1) = true := by simpa using h1
    obtain ⟨e1, e2⟩ := took_no (h := h) (n := n) (f := f) (by omega)
    rw [e1, e2]; clear e1 e2 hB hh
    go_enter Try.func16, Try.ntmps16
    go_wp2
    go_quiet (fail)
    go_wp2
    go_ret
    exact ⟨rfl, only_drewN hrefl _, HB.out.drewN _⟩
  have d1 : decide (f < 1) = false := by simpa using h1
  by_cases h2 : 7 < f
  · have d2 : decide (7 < f) = true := by simpa using h2
    obtain ⟨e1, e2⟩ := took_no (h := h) (n := n) (f := f) (by omega)
    rw [e1, e2]; clear e1 e2 hB hh
    go_enter Try.func16, Try.ntmps16
    go_wp2
    go_quiet (fail)
    go_wp2
    go_ret
    exact ⟨rfl, only_drewN hrefl _, HB.out.drewN _⟩
  have d2 : decide (7 < f) = false := by simpa using h2
  have hk : f.toNat ≤ 7 := by omega
  have hc := hB.cell (1 + f.toNat)
  rw [qr_at h n _ hk] at hc
  have hn : w.cell? ⟨b, 0, none⟩ = some (.int .i64 n) := hB.cell 0
  have hz := hB.frozen (1 + f.toNat)
  have hv := hh f.toNat
  have h1' : 1 ≤ f := by omega
  have h2' : f ≤ 7 := by omega
  have hset := hide (qr_set h n f.toNat hk (h f.toNat + 1))
  by_cases h3 : h f.toNat < n
  · have d3 : decide (n ≤ h f.toNat) = false := by simpa using h3
    obtain ⟨e1, e2⟩ := took_yes (h := h) (n := n) (f := f) (by omega) (by omega) h3
    rw [e1, e2]; clear e1 e2 hB hh
    generalize h f.toNat = v at *
    go_enter Try.func16, Try.ntmps16
    go_wp2
    go_quiet (fail)
    go_wp2
    go_region
    all_goals
      go_wp2
      go_ret
      refine ⟨rfl, only_setCell (p := ⟨b, 1 + f.toNat, none⟩) (only_drewN hrefl _) (.inl rfl) _, ?_⟩
      have H := (HB.out.drewN (nq + 1)).set_ (1 + f.toNat) (.int .i64 (v + 1))
      rw [hset.out] at H
      exact H
  · have d3 : decide (n ≤ h f.toNat) = true := by simpa using h3
    obtain ⟨e1, e2⟩ := took_no (h := h) (n := n) (f := f) (by omega)
    rw [e1, e2]; clear e1 e2 hB hh
    go_enter Try.func16, Try.ntmps16
    go_wp2
    go_quiet (fail)
    go_wp2
    go_ret
    exact ⟨rfl, only_drewN hrefl _, HB.out.drewN _⟩

/-- The counts below k are noughts already. -/
def zeroed (h : Nat → Int) (k : Nat) : Nat → Int := fun j => if j < k then 0 else h j
theorem zeroed_succ (h : Nat → Int) (k : Nat) : (fun j => if j = k then 0 else zeroed h k j) = zeroed h (k + 1) := by
  funext j
  unfold zeroed
  by_cases h1 : j = k
  · subst h1; simp
  · by_cases h2 : j < k
    · rw [if_neg h1, if_pos h2, if_pos (by omega)]
    · rw [if_neg h1, if_neg h2, if_neg (by omega)]
theorem zeroed_all (h : Nat → Int) (n : Int) : qr (zeroed h 8) n = qr (fun _ => 0) n := rfl

def TickRel (w : World) (b : Nat) (t : TypeId) (h : Nat → Int) (n : Int) (i : Value) (wr : World) : Prop :=
  ∃ k : Nat, k ≤ 8 ∧ i = .int .i64 k ∧ w.grownBy wr (some b) ∧ Blk wr b t (qr (zeroed h k) n)

set_option maxHeartbeats 400000 in
theorem rtick_any (b : Nat) (h : Nat → Int) (n : Int) (w : World) (hB : Blk w b 67 (qr h n)) :
    Calls Try.prog 14 #[.pointer (some ⟨b, 0, none⟩)] w (TickEnds w b 67 (qr (fun _ => 0) n)) := by
  have HB := hide hB
  clear hB
  go_enter Try.func14, Try.ntmps14
  go_wp2
  go_loopw [2] (fun i wr => TickRel w b 67 h n i wr) (fun i _ => 8 - (intOf i).toNat)
  case atStart =>
    refine ⟨0, by omega, rfl, World.grownBy.refl w _, ?_⟩
    have e : zeroed h 0 = h := by funext j; unfold zeroed; simp
    rw [e]; exact HB.out
  case round =>
    obtain ⟨k, hk, rfl, hg, hb⟩ := hrel
    have HG := hide hg
    have HBr := hide hb
    clear hg
    by_cases hlt : k ≤ 7
    · have hc := hb.cell (1 + k)
      rw [qr_at _ _ _ hlt] at hc
      have hz := hb.frozen (1 + k)
      have hs := hide (qr_set (zeroed h k) n k hlt 0)
      rw [zeroed_succ] at hs
      clear hb
      go_wp2
      go_roundw
      case rel =>
        refine ⟨k + 1, by omega, by go_num, only_setCell (p := ⟨b, 1 + k, none⟩) HG.out (.inl rfl) _, ?_⟩
        have H := HBr.out.set_ (1 + k) (.int .i64 0)
        rw [hs.out] at H
        exact H
      case measure => simp [intOf]; omega
    · clear hb
      obtain rfl : k = 8 := by omega
      go_wp2
      go_end0
      exact ⟨rfl, HG.out, by have := HBr.out; rw [zeroed_all] at this; exact this⟩

end Go.Proofs.Ytajbbajdglnecaa
