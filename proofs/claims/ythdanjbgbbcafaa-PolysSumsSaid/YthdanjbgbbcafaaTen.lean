/- balefirelaw10: Of, walked. -/
import Derived.Test.YthdanjbgbbcafaaThru
namespace Go.Proofs.Ythdanjbgbbcafaa
open Go Go.RowKit

/-- A slice of words in a block of its own. -/
def wordsOf (ws : List Nat) : Array Value := (ws.map uw).toArray
theorem wordsOf_at {ws : List Nat} {i x : Nat} (h : ws[i]? = some x) : (wordsOf ws)[i]? = some (uw x) := by
  unfold wordsOf
  simp [h]
def OfRel10 (w : World) (n : Nat) (t24 : TypeId) (sts : Nat → List Nat) (vo vi : Value) (wr : World) : Prop :=
  ∃ k : Nat, k ≤ n ∧ vi = .int .i64 (k : Nat) ∧ Grows w wr ∧ NumRow wr w.heap.size t24 vo (sts k)
set_option maxRecDepth 100000 in
set_option maxHeartbeats 4000000 in
theorem of_any (b : Nat) (t : TypeId) (ws : List Nat) (hw : ∀ x ∈ ws, x < 18446744073709551616) (hlen : ws.length ≤ 1000) (w : World) (B : Blk w b t (wordsOf ws)) :
    Calls Try.prog 23 #[.slice (some ⟨b, 0, none⟩) ws.length ws.length] w (RowEnds w 24 ws) := by
  have hst0 : ws.take 0 = [] := rfl
  have hstep : ∀ (k x : Nat), ws[k]? = some x → ws.take (k + 1) = ws.take k ++ [x] := fun k x h => by rw [List.take_add_one, h]; rfl
  have hend : ws.take ws.length = ws := List.take_length
  have hsl : ∀ k, (ws.take k).length ≤ ws.length := fun k => by rw [List.length_take]; omega
  obtain ⟨sts, hsts⟩ : ∃ sts : Nat → List Nat, sts = fun k => ws.take k := ⟨_, rfl⟩
  have he : ∀ k, ws.take k = sts k := fun k => by rw [hsts]
  simp only [he] at hst0 hstep hend hsl
  clear hsts he
  have hb := B.lt
  generalize hn : ws.length = n at *
  have HN := hide hn
  have HW := hide hw
  have HSTEP := hide hstep
  have HEND := hide hend
  have HSL := hide hsl
  have HB := hide B
  have HST : Keep (OfRel10 w n 24 sts (.slice none 0 0) (.int .i64 (0 : Nat)) w) := ⟨⟨0, Nat.zero_le _, rfl, Grows.refl w, by rw [hst0]; exact NumRow.nil _ _ _⟩⟩
  clear hn hw hstep hend hsl B hst0
  go_enter Try.func23, Try.ntmps23
  go_wp2_with fail
  go_loopw [3, 4] (fun vo vi wr => OfRel10 w n 24 sts vo vi wr) (fun _ i _ => n - (intOf i).toNat)
  case atStart => exact HST.out
  case round =>
    clear HST
    obtain ⟨k, hk, rfl, hL, hR⟩ := hrel
    have KL := hide hL
    have KR := hide hR
    clear hR
    by_cases hkn : k < n
    · obtain ⟨x, hx⟩ : ∃ x, ws[k]? = some x := ⟨_, List.getElem?_eq_getElem (by have := HN.out; omega)⟩
      have hxw := HW.out x (List.mem_of_getElem? hx)
      have hc := ((HB.out.below hL hb).cell k).trans (wordsOf_at hx)
      have hst := HSTEP.out k x hx
      have HST := hide hst
      have hln := HSL.out k
      have hsz := KL.out.size
      have hnum : Value.agg #[uw x, uw 0, uw 0, uw 0] = .agg (num x) := by rw [num_word x hxw]
      have HNUM := hide hnum
      have hxb : x < big := Nat.lt_trans hxw (by rw [big_pow]; decide)
      clear hx hst hL hnum
      obtain ⟨i0, hi0, hi1, hi2, hi3⟩ := info_parts info_num
      have HI0 := hide hi0
      clear hi0
      have L1 : Grows wr (wr.alloc (.cells (num x) 24)) := (Below.refl _ _).alloc (Nat.le_refl _) _
      have HOWN := hide (KR.out.grow L1).own
      have HRD : Keep (Reads (wr.alloc (.cells (num x) 24)) (wr.heap.size + 1) 4 (some ⟨wr.heap.size, 0, none⟩) 1 (num x).toList) := ⟨by rw [Array.length_toList, num_size], fun _ => ⟨_, rfl, by simp, fun j u hu => by
        rw [show (⟨wr.heap.size, 0, none⟩ : Addr).add j = ⟨wr.heap.size, j, none⟩ by unfold Addr.add; split <;> simp_all, (Blk.new wr 24 (num x)).cell]
        simpa using hu⟩⟩
      have KL1 := hide (Grows.trans KL.out L1)
      have HI := hide (And.intro hi1 (And.intro hi2 hi3))
      clear L1 hi1 hi2 hi3
      go_wp2_with (first | (refine wpList_buildNum rfl (.tmp 16) rfl x HNUM.out ?_) | (at_builtin; refine wpList_append_any _ rfl (.tmp 11) (.tmp 17) 27 rfl w.heap.size 24 i0 (.agg nought) 4 32 Try.underlying27 HI0.out HI.out.1 HI.out.2.1 HI.out.2.2 rfl (by decide) _ (sts k).length (cellsOf (sts k)) rfl HOWN.out (wr.heap.size + 1) _ 1 1 (num x).toList rfl HRD.out (num_cells_one x) (by unfold maxLen; omega) (by omega) (by simp; omega) ?_) | fail)
      intro v' w' hown hgrow _
      have hrow : ∀ g, Value.ownBlock _ = some g → w.heap.size ≤ g := fun g hg => (HOWN.out.lt g hg).1
      have KR3 := hide (NumRow.more hown KR.out.lt hxb HST.out)
      have KL3 := hide (below_grown KL1.out hgrow hrow KL1.out.size)
      clear hown hgrow hrow HOWN HRD KL1 KL KR HI HI0 HST
      go_wp2_with fail
      go_roundw
      case rel => exact ⟨k + 1, by omega, by go_num, KL3.out, KR3.out⟩
      case measure => simp [intOf]; omega
    · have hkn' : k = n := by omega
      clear hkn
      subst hkn'
      go_wp2_with fail
      try rw [Exit.noGoto_ret]
      exact bodyPost_ret (by kernel_rfl) rfl ⟨_, rfl, by rw [← HEND.out]; exact KR.out, KL.out⟩
end Go.Proofs.Ythdanjbgbbcafaa
