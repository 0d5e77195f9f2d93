/- polys: a field of exponents: keep. -/
import Derived.Test.YthdanjbgbbcafaaScalOf
namespace Go.Proofs.Ythdanjbgbbcafaa
open Go Go.RowKit

theorem But.shrink {rows rows' : List Nat} {w w1 w2 : World} (h1 : Grows w w1) (h2 : But rows' w1 w2) (hr : ∀ g ∈ rows', g ∈ rows ∨ w.heap.size ≤ g) : But rows w w2 :=
  ⟨h2.os.trans h1.os, h2.tape.trans h1.tape, h2.output.trans h1.output, Nat.le_trans h1.size h2.size, fun k hk hn => (h2.block k (Nat.lt_of_lt_of_le hk h1.size) (fun hm => by
    rcases hr k hm with h | h
    · exact hn h
    · omega)).trans (h1.block k hk)⟩
/-- What goes wrong first. -/
def first (e c : Int) : Int := if e = 0 then c else e
/-- The cells of a field. -/
def frow (gr : Array Value) (e : Int) : Array Value := gr.push (.int .i64 e)
theorem frow_at {gr : Array Value} (h : gr.size = 16) (e : Int) : (frow gr e)[16]? = some (.int .i64 e) := by
  unfold frow
  rw [← h]
  simp
theorem frow_set {gr : Array Value} (h : gr.size = 16) (e c : Int) : (frow gr e).setIfInBounds 16 (.int .i64 c) = frow gr c := by
  unfold frow
  apply Array.ext_getElem?
  intro i
  simp only [Array.getElem?_setIfInBounds, Array.getElem?_push, Array.size_push, h]
  by_cases h1 : 16 = i
  · subst h1; simp
  · rw [if_neg h1]
    have : ¬ i = 16 := fun e => h1 e.symm
    rw [if_neg this, if_neg this]
def FieldEnds (w : World) (bf : Nat) (t57 : TypeId) (gr : Array Value) (n : Nat) (e : Int) (x : Ending) (w' : World) : Prop := x = .returned (.agg (num n)) ∧ But [bf] w w' ∧ Blk w' bf t57 (frow gr e)
set_option maxRecDepth 100000 in
set_option maxHeartbeats 4000000 in
theorem keep_any (gr : Array Value) (q a bf : Nat) (e c : Int) (hgr : GroupRow gr q) (he : e = 0 ∨ e = 1 ∨ e = 7) (w : World) (BF : Blk w bf 57 (frow gr e)) :
    Calls Try.prog 48 #[.pointer (some ⟨bf, 0, none⟩), .agg (num a), .int .i64 c] w (FieldEnds w bf 57 gr a (first e c)) := by
  have hbf := BF.lt
  go_enter Try.func48, Try.ntmps48
  go_upto_region 1 with fail
  have hA := hide ((Blk.new w 24 (num a)).alloc (.cells nought 24))
  have r1 := Blk.new (w.alloc (.cells (num a) 24)) 24 nought
  simp only [World.size_alloc] at r1
  have hR := hide r1
  have hF := hide ((BF.alloc (.cells (num a) 24)).alloc (.cells nought 24))
  have hL0 : Grows w ((w.alloc (.cells (num a) 24)).alloc (.cells nought 24)) := ((Below.refl _ _).alloc (Nat.le_refl _) _).alloc (by simp) _
  have hL := hide hL0
  clear BF r1 hL0
  change Code.wp _ _ _ _ ((w.alloc (.cells (num a) 24)).alloc (.cells nought 24))
  generalize (w.alloc (.cells (num a) 24)).alloc (.cells nought 24) = w1 at *
  have hc := (hF.out.cell 16).trans (frow_at hgr.size e)
  have hz := hF.out.frozen 16
  by_cases he0 : e = 0
  · subst he0
    go_upto_region 3 with fail
    have hA2 := hide (hA.out.far (p := ⟨bf, 16, none⟩) (by show w.heap.size ≠ bf; omega) (.int .i64 c))
    have hR2 := hide (hR.out.far (p := ⟨bf, 16, none⟩) (by show w.heap.size + 1 ≠ bf; omega) (.int .i64 c))
    have f2 := hF.out.set_ 16 (.int .i64 c)
    rw [frow_set hgr.size] at f2
    have hF2 := hide f2
    have b2 : But [bf, w.heap.size + 1] w1 (w1.setCell ⟨bf, 16, none⟩ (.int .i64 c)) := but_setCell (by simp) _
    have hB2 := hide b2
    clear f2 b2 hc hz hA hR hF
    generalize w1.setCell ⟨bf, 16, none⟩ (.int .i64 c) = w2 at *
    go_wp2_with (first | (refine wpList_load_row rfl 24 _ rfl (w.heap.size) rfl 24 (num a) (0, 0) _ hA2.out Try.underlying24 rfl info4 ?_) | (refine wpList_store_row rfl 24 (.tmp 6) (.tmp 16) rfl (w.heap.size + 1) (num a) rfl rfl 24 _ (hR2.out) info4 rfl (num_one _) ?_))
    have hS := hR2.out.setRow (num a)
    exact bodyPost_ret (results_num rfl rfl hS) rfl ⟨rfl, But.shrink hL.out (hB2.out.trans (but_setRow (by simp) _)) (by simp), hF2.out.setRow_far (by omega) _⟩
  · have hfe : first e c = e := if_neg he0
    have he2 : e = 1 ∨ e = 7 := by omega
    rw [hfe]
    clear he he0 hfe
    rcases he2 with rfl | rfl
    · go_wp2_with (first | (refine wpList_load_row rfl 24 _ rfl (w.heap.size) rfl 24 (num a) (0, 0) _ hA.out Try.underlying24 rfl info4 ?_) | (refine wpList_store_row rfl 24 (.tmp 6) (.tmp 16) rfl (w.heap.size + 1) (num a) rfl rfl 24 _ (hR.out) info4 rfl (num_one _) ?_))
      have hS := hR.out.setRow (num a)
      exact bodyPost_ret (results_num rfl rfl hS) rfl ⟨rfl, But.shrink hL.out (but_setRow (rows := [bf, w.heap.size + 1]) (by simp) _) (by simp), hF.out.setRow_far (by omega) _⟩
    · go_wp2_with (first | (refine wpList_load_row rfl 24 _ rfl (w.heap.size) rfl 24 (num a) (0, 0) _ hA.out Try.underlying24 rfl info4 ?_) | (refine wpList_store_row rfl 24 (.tmp 6) (.tmp 16) rfl (w.heap.size + 1) (num a) rfl rfl 24 _ (hR.out) info4 rfl (num_one _) ?_))
      have hS := hR.out.setRow (num a)
      exact bodyPost_ret (results_num rfl rfl hS) rfl ⟨rfl, But.shrink hL.out (but_setRow (rows := [bf, w.heap.size + 1]) (by simp) _) (by simp), hF.out.setRow_far (by omega) _⟩
end Go.Proofs.Ythdanjbgbbcafaa
